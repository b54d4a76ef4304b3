/-
  DERIVED. GIVEN WITH THE SEED: THE CARDS: each row of YtfgchphadeogpaaDoorRows.lean that lists a variable, with what it lists TIED to the program's text (the seventh form; the later family's looks); each row that meets fmt, with fmt's text TOLD by the authors' own Lean function (tested against real Go, not proved from fmt's source: count such statements apart). THE CARD IS WHAT COUNTS. Prove the row's statement (the work); the ties are given (YtfgchphadeogpaaDoorTie.lean); close each card by the builder's one call (the guide's Derived/Test/ToyasCard.lean, 'card_holds'). Laid BY PROGRAM, IN A SANDBOX (cutbox-door.mjs). By AI agents, Wed Nov 11 2026. No macro, syntax, notation, axiom, sorry.
-/
import Derived.Test.YtfgchphadeogpaaDoorRows
import GoSem.ClaimSeven
namespace Go.Proofs.YtfgchphadeogpaaDoor
namespace Rows

/-- THE TIED CARD OF 'cardinglaw20.MailReads'. -/
def mailReadsCard : Claim7 := { stood := { row := mailReadsRow, standIns := [], harness := (true, "c39ffb1e55595f78a69c2129c5be1316a9f42d0a0d47e1fa889ccf450d87fb8b"), looks := false }, kinds := [], alts := [], laidByText := true, laidKinds := [.data, .pinned], laidTests := true, laidLooks := .later }
def MailReadsCardSaid : Prop := Claim7.holds Tryd.pinned (.plain (OpenSpec.ofChange mailReadsSpec)) mailReadsCard

/-- THE TIED CARD OF 'cardinglaw20.MailWrites'. -/
def mailWritesCard : Claim7 := { stood := { row := mailWritesRow, standIns := [], harness := (true, "c39ffb1e55595f78a69c2129c5be1316a9f42d0a0d47e1fa889ccf450d87fb8b"), looks := false }, kinds := [], alts := [], laidByText := true, laidKinds := [.data, .pinned], laidTests := true, laidLooks := .later }
def MailWritesCardSaid : Prop := Claim7.holds Tryd.pinned (.plain (OpenSpec.ofChange mailWritesSpec)) mailWritesCard

/-- THE TIED CARD OF 'cardinglaw20.MailBack'. -/
def mailBackCard : Claim7 := { stood := { row := mailBackRow, standIns := [], harness := (true, "c39ffb1e55595f78a69c2129c5be1316a9f42d0a0d47e1fa889ccf450d87fb8b"), looks := false }, kinds := [], alts := [], laidByText := true, laidKinds := [.data, .pinned], laidTests := true, laidLooks := .later }
def MailBackCardSaid : Prop := Claim7.holds Tryd.pinned (.plain (OpenSpec.ofChange mailBackSpec)) mailBackCard

/-- THE TIED CARD OF 'cardinglaw20.MailZones'. -/
def mailZonesCard : Claim7 := { stood := { row := mailZonesRow, standIns := [], harness := (true, "c39ffb1e55595f78a69c2129c5be1316a9f42d0a0d47e1fa889ccf450d87fb8b"), looks := false }, kinds := [], alts := [], laidByText := true, laidKinds := [.data, .pinned], laidTests := true, laidLooks := .later }
def MailZonesCardSaid : Prop := Claim7.holds Tryd.pinned (.plain (OpenSpec.ofChange mailZonesSpec)) mailZonesCard

/-- THE TIED CARD OF 'cardinglaw20.MailWeek'. -/
def mailWeekCard : Claim7 := { stood := { row := mailWeekRow, standIns := [], harness := (true, "c39ffb1e55595f78a69c2129c5be1316a9f42d0a0d47e1fa889ccf450d87fb8b"), looks := false }, kinds := [], alts := [], laidByText := true, laidKinds := [.data, .pinned], laidTests := true, laidLooks := .later }
def MailWeekCardSaid : Prop := Claim7.holds Tryd.pinned (.plain (OpenSpec.ofChange mailWeekSpec)) mailWeekCard

/-- THE SECOND FORM's CARD OF 'cardinglaw20.MailReads'. -/
def mailReadsUptoCard : Claim7 := { stood := { row := mailReadsUptoRow, standIns := [], harness := (true, "c39ffb1e55595f78a69c2129c5be1316a9f42d0a0d47e1fa889ccf450d87fb8b"), looks := false }, kinds := [], alts := [], laidByText := true, laidKinds := [.data, .pinned], laidTests := true, laidLooks := .later }
def MailReadsUptoCardSaid : Prop := Claim7.holds Tryd.pinned (.plain (OpenSpec.upto mailReadsSpec)) mailReadsUptoCard

/-- THE SECOND FORM's CARD OF 'cardinglaw20.MailWrites'. -/
def mailWritesUptoCard : Claim7 := { stood := { row := mailWritesUptoRow, standIns := [], harness := (true, "c39ffb1e55595f78a69c2129c5be1316a9f42d0a0d47e1fa889ccf450d87fb8b"), looks := false }, kinds := [], alts := [], laidByText := true, laidKinds := [.data, .pinned], laidTests := true, laidLooks := .later }
def MailWritesUptoCardSaid : Prop := Claim7.holds Tryd.pinned (.plain (OpenSpec.upto mailWritesSpec)) mailWritesUptoCard

/-- THE SECOND FORM's CARD OF 'cardinglaw20.MailBack'. -/
def mailBackUptoCard : Claim7 := { stood := { row := mailBackUptoRow, standIns := [], harness := (true, "c39ffb1e55595f78a69c2129c5be1316a9f42d0a0d47e1fa889ccf450d87fb8b"), looks := false }, kinds := [], alts := [], laidByText := true, laidKinds := [.data, .pinned], laidTests := true, laidLooks := .later }
def MailBackUptoCardSaid : Prop := Claim7.holds Tryd.pinned (.plain (OpenSpec.upto mailBackSpec)) mailBackUptoCard

/-- THE SECOND FORM's CARD OF 'cardinglaw20.MailZones'. -/
def mailZonesUptoCard : Claim7 := { stood := { row := mailZonesUptoRow, standIns := [], harness := (true, "c39ffb1e55595f78a69c2129c5be1316a9f42d0a0d47e1fa889ccf450d87fb8b"), looks := false }, kinds := [], alts := [], laidByText := true, laidKinds := [.data, .pinned], laidTests := true, laidLooks := .later }
def MailZonesUptoCardSaid : Prop := Claim7.holds Tryd.pinned (.plain (OpenSpec.upto mailZonesSpec)) mailZonesUptoCard

/-- THE SECOND FORM's CARD OF 'cardinglaw20.MailWeek'. -/
def mailWeekUptoCard : Claim7 := { stood := { row := mailWeekUptoRow, standIns := [], harness := (true, "c39ffb1e55595f78a69c2129c5be1316a9f42d0a0d47e1fa889ccf450d87fb8b"), looks := false }, kinds := [], alts := [], laidByText := true, laidKinds := [.data, .pinned], laidTests := true, laidLooks := .later }
def MailWeekUptoCardSaid : Prop := Claim7.holds Tryd.pinned (.plain (OpenSpec.upto mailWeekSpec)) mailWeekUptoCard
end Rows
end Go.Proofs.YtfgchphadeogpaaDoor
