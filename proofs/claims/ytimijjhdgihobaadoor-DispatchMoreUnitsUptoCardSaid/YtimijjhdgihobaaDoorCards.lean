/-
  DERIVED. GIVEN WITH THE SEED: THE CARDS: each row of YtimijjhdgihobaaDoorRows.lean that lists a variable, with what it lists TIED to the program's text (the seventh form; the later family's looks); each row that meets fmt, with fmt's text TOLD by the authors' own Lean function (tested against real Go, not proved from fmt's source: count such statements apart). THE CARD IS WHAT COUNTS. Prove the row's statement (the work); the ties are given (YtimijjhdgihobaaDoorTie.lean); close each card by the builder's one call (the guide's Derived/Test/ToyasCard.lean, 'card_holds'). Laid BY PROGRAM, IN A SANDBOX (cutbox-door.mjs). By AI agents, Wed Nov 11 2026. No macro, syntax, notation, axiom, sorry.
-/
import Derived.Test.YtimijjhdgihobaaDoorRows
import GoSem.ClaimSeven
namespace Go.Proofs.YtimijjhdgihobaaDoor
namespace Rows

/-- THE TIED CARD OF 'samaritanlaw38.DispatchPriority'. -/
def dispatchPriorityCard : Claim7 := { stood := { row := dispatchPriorityRow, standIns := [], harness := (true, "4278cf26e7dbe3cc870eb4c551131ca44f54e44353cdee25a18e435b074815c8"), looks := false }, kinds := [], alts := [], laidByText := true, laidKinds := [.data, .data, .data, .data], laidTests := true, laidLooks := .later }
def DispatchPriorityCardSaid : Prop := Claim7.holds Tryd.pinned (.plain (OpenSpec.ofChange dispatchPrioritySpec)) dispatchPriorityCard

/-- THE TIED CARD OF 'samaritanlaw38.DispatchReserve'. -/
def dispatchReserveCard : Claim7 := { stood := { row := dispatchReserveRow, standIns := [], harness := (true, "4278cf26e7dbe3cc870eb4c551131ca44f54e44353cdee25a18e435b074815c8"), looks := false }, kinds := [], alts := [], laidByText := true, laidKinds := [.data, .data, .data, .data], laidTests := true, laidLooks := .later }
def DispatchReserveCardSaid : Prop := Claim7.holds Tryd.pinned (.plain (OpenSpec.ofChange dispatchReserveSpec)) dispatchReserveCard

/-- THE TIED CARD OF 'samaritanlaw38.DispatchMoreUnits'. -/
def dispatchMoreUnitsCard : Claim7 := { stood := { row := dispatchMoreUnitsRow, standIns := [], harness := (true, "4278cf26e7dbe3cc870eb4c551131ca44f54e44353cdee25a18e435b074815c8"), looks := false }, kinds := [], alts := [], laidByText := true, laidKinds := [.data, .data, .data, .data], laidTests := true, laidLooks := .later }
def DispatchMoreUnitsCardSaid : Prop := Claim7.holds Tryd.pinned (.plain (OpenSpec.ofChange dispatchMoreUnitsSpec)) dispatchMoreUnitsCard

/-- THE TIED CARD OF 'samaritanlaw38.DispatchFormat'. -/
def dispatchFormatCard : Claim7 := { stood := { row := dispatchFormatRow, standIns := [], harness := (true, "4278cf26e7dbe3cc870eb4c551131ca44f54e44353cdee25a18e435b074815c8"), looks := false }, kinds := [], alts := [], laidByText := true, laidKinds := [.data, .data, .data, .data], laidTests := true, laidLooks := .later }
def DispatchFormatCardSaid : Prop := Claim7.holds Tryd.pinned (.plain (OpenSpec.ofChange dispatchFormatSpec)) dispatchFormatCard

/-- THE SECOND FORM's CARD OF 'samaritanlaw38.DispatchPriority'. -/
def dispatchPriorityUptoCard : Claim7 := { stood := { row := dispatchPriorityUptoRow, standIns := [], harness := (true, "4278cf26e7dbe3cc870eb4c551131ca44f54e44353cdee25a18e435b074815c8"), looks := false }, kinds := [], alts := [], laidByText := true, laidKinds := [.data, .data, .data, .data], laidTests := true, laidLooks := .later }
def DispatchPriorityUptoCardSaid : Prop := Claim7.holds Tryd.pinned (.plain (OpenSpec.upto dispatchPrioritySpec)) dispatchPriorityUptoCard

/-- THE SECOND FORM's CARD OF 'samaritanlaw38.DispatchReserve'. -/
def dispatchReserveUptoCard : Claim7 := { stood := { row := dispatchReserveUptoRow, standIns := [], harness := (true, "4278cf26e7dbe3cc870eb4c551131ca44f54e44353cdee25a18e435b074815c8"), looks := false }, kinds := [], alts := [], laidByText := true, laidKinds := [.data, .data, .data, .data], laidTests := true, laidLooks := .later }
def DispatchReserveUptoCardSaid : Prop := Claim7.holds Tryd.pinned (.plain (OpenSpec.upto dispatchReserveSpec)) dispatchReserveUptoCard

/-- THE SECOND FORM's CARD OF 'samaritanlaw38.DispatchMoreUnits'. -/
def dispatchMoreUnitsUptoCard : Claim7 := { stood := { row := dispatchMoreUnitsUptoRow, standIns := [], harness := (true, "4278cf26e7dbe3cc870eb4c551131ca44f54e44353cdee25a18e435b074815c8"), looks := false }, kinds := [], alts := [], laidByText := true, laidKinds := [.data, .data, .data, .data], laidTests := true, laidLooks := .later }
def DispatchMoreUnitsUptoCardSaid : Prop := Claim7.holds Tryd.pinned (.plain (OpenSpec.upto dispatchMoreUnitsSpec)) dispatchMoreUnitsUptoCard

/-- THE SECOND FORM's CARD OF 'samaritanlaw38.DispatchFormat'. -/
def dispatchFormatUptoCard : Claim7 := { stood := { row := dispatchFormatUptoRow, standIns := [], harness := (true, "4278cf26e7dbe3cc870eb4c551131ca44f54e44353cdee25a18e435b074815c8"), looks := false }, kinds := [], alts := [], laidByText := true, laidKinds := [.data, .data, .data, .data], laidTests := true, laidLooks := .later }
def DispatchFormatUptoCardSaid : Prop := Claim7.holds Tryd.pinned (.plain (OpenSpec.upto dispatchFormatSpec)) dispatchFormatUptoCard
end Rows
end Go.Proofs.YtimijjhdgihobaaDoor
