/-
  DERIVED. GIVEN WITH THE SEED: THE CARDS: each row of YtakdkiggaalimaaGreatDoorRows.lean that lists a variable, with what it lists TIED to the program's text (the seventh form; the later family's looks); each row that meets fmt, with fmt's text TOLD by the authors' own Lean function (tested against real Go, not proved from fmt's source: count such statements apart). THE CARD IS WHAT COUNTS. Prove the row's statement (the work); the ties are given (YtakdkiggaalimaaGreatDoorTie.lean); close each card by the builder's one call (the guide's Derived/Test/ToyasCard.lean, 'card_holds'). Laid BY PROGRAM, IN A SANDBOX (cutbox-door.mjs). By AI agents, Wed Nov 11 2026. No macro, syntax, notation, axiom, sorry.
-/
import Derived.Test.YtakdkiggaalimaaGreatDoorRows
import GoSem.ClaimSeven
namespace Go.Proofs.YtakdkiggaalimaaGreatDoor
namespace Rows

/-- THE TIED CARD OF 'samaritanlaw51.TraceEventParsing'. -/
def traceEventParsingCard : Claim7 := { stood := { row := traceEventParsingRow, standIns := [], harness := (true, "d4baf8660cfea448c063c0c363325755b571b69c519753304a6af9b91a8a76f7"), looks := true }, kinds := [], alts := [], laidByText := true, laidKinds := [.data, .data, .data, .data, .sentinel, .sentinel, .pinned], laidTests := true, laidLooks := .later }
def TraceEventParsingCardSaid : Prop := Claim7.holds Tryz.pinned (.plain (OpenSpec.ofChange traceEventParsingSpec)) traceEventParsingCard

/-- THE TIED CARD OF 'samaritanlaw51.TraceEventFormat'. -/
def traceEventFormatCard : Claim7 := { stood := { row := traceEventFormatRow, standIns := [], harness := (true, "d4baf8660cfea448c063c0c363325755b571b69c519753304a6af9b91a8a76f7"), looks := true }, kinds := [], alts := [], laidByText := true, laidKinds := [.data, .data, .data, .data, .sentinel, .sentinel, .pinned], laidTests := true, laidLooks := .later }
def TraceEventFormatCardSaid : Prop := Claim7.holds Tryz.pinned (.plain (OpenSpec.ofChange traceEventFormatSpec)) traceEventFormatCard

/-- THE TIED CARD OF 'samaritanlaw51.TraceActionFormat'. -/
def traceActionFormatCard : Claim7 := { stood := { row := traceActionFormatRow, standIns := [], harness := (true, "d4baf8660cfea448c063c0c363325755b571b69c519753304a6af9b91a8a76f7"), looks := true }, kinds := [], alts := [], laidByText := true, laidKinds := [.data, .data, .data, .data, .sentinel, .sentinel, .pinned], laidTests := true, laidLooks := .later }
def TraceActionFormatCardSaid : Prop := Claim7.holds Tryz.pinned (.plain (OpenSpec.ofChange traceActionFormatSpec)) traceActionFormatCard

/-- THE TIED CARD OF 'samaritanlaw51.TraceParsing'. -/
def traceParsingCard : Claim7 := { stood := { row := traceParsingRow, standIns := [], harness := (true, "d4baf8660cfea448c063c0c363325755b571b69c519753304a6af9b91a8a76f7"), looks := true }, kinds := [], alts := [], laidByText := true, laidKinds := [.data, .data, .data, .data, .sentinel, .sentinel, .pinned], laidTests := true, laidLooks := .later }
def TraceParsingCardSaid : Prop := Claim7.holds Tryz.pinned (.plain (OpenSpec.ofChange traceParsingSpec)) traceParsingCard

/-- THE TIED CARD OF 'samaritanlaw51.TraceFormat'. -/
def traceFormatCard : Claim7 := { stood := { row := traceFormatRow, standIns := [], harness := (true, "d4baf8660cfea448c063c0c363325755b571b69c519753304a6af9b91a8a76f7"), looks := true }, kinds := [], alts := [], laidByText := true, laidKinds := [.data, .data, .data, .data, .sentinel, .sentinel, .pinned], laidTests := true, laidLooks := .later }
def TraceFormatCardSaid : Prop := Claim7.holds Tryz.pinned (.plain (OpenSpec.ofChange traceFormatSpec)) traceFormatCard

/-- THE SECOND FORM's CARD OF 'samaritanlaw51.TraceEventParsing'. -/
def traceEventParsingUptoCard : Claim7 := { stood := { row := traceEventParsingUptoRow, standIns := [], harness := (true, "d4baf8660cfea448c063c0c363325755b571b69c519753304a6af9b91a8a76f7"), looks := true }, kinds := [], alts := [], laidByText := true, laidKinds := [.data, .data, .data, .data, .sentinel, .sentinel, .pinned], laidTests := true, laidLooks := .later }
def TraceEventParsingUptoCardSaid : Prop := Claim7.holds Tryz.pinned (.plain (OpenSpec.upto traceEventParsingSpec)) traceEventParsingUptoCard

/-- THE SECOND FORM's CARD OF 'samaritanlaw51.TraceEventFormat'. -/
def traceEventFormatUptoCard : Claim7 := { stood := { row := traceEventFormatUptoRow, standIns := [], harness := (true, "d4baf8660cfea448c063c0c363325755b571b69c519753304a6af9b91a8a76f7"), looks := true }, kinds := [], alts := [], laidByText := true, laidKinds := [.data, .data, .data, .data, .sentinel, .sentinel, .pinned], laidTests := true, laidLooks := .later }
def TraceEventFormatUptoCardSaid : Prop := Claim7.holds Tryz.pinned (.plain (OpenSpec.upto traceEventFormatSpec)) traceEventFormatUptoCard

/-- THE SECOND FORM's CARD OF 'samaritanlaw51.TraceActionFormat'. -/
def traceActionFormatUptoCard : Claim7 := { stood := { row := traceActionFormatUptoRow, standIns := [], harness := (true, "d4baf8660cfea448c063c0c363325755b571b69c519753304a6af9b91a8a76f7"), looks := true }, kinds := [], alts := [], laidByText := true, laidKinds := [.data, .data, .data, .data, .sentinel, .sentinel, .pinned], laidTests := true, laidLooks := .later }
def TraceActionFormatUptoCardSaid : Prop := Claim7.holds Tryz.pinned (.plain (OpenSpec.upto traceActionFormatSpec)) traceActionFormatUptoCard

/-- THE SECOND FORM's CARD OF 'samaritanlaw51.TraceParsing'. -/
def traceParsingUptoCard : Claim7 := { stood := { row := traceParsingUptoRow, standIns := [], harness := (true, "d4baf8660cfea448c063c0c363325755b571b69c519753304a6af9b91a8a76f7"), looks := true }, kinds := [], alts := [], laidByText := true, laidKinds := [.data, .data, .data, .data, .sentinel, .sentinel, .pinned], laidTests := true, laidLooks := .later }
def TraceParsingUptoCardSaid : Prop := Claim7.holds Tryz.pinned (.plain (OpenSpec.upto traceParsingSpec)) traceParsingUptoCard

/-- THE SECOND FORM's CARD OF 'samaritanlaw51.TraceFormat'. -/
def traceFormatUptoCard : Claim7 := { stood := { row := traceFormatUptoRow, standIns := [], harness := (true, "d4baf8660cfea448c063c0c363325755b571b69c519753304a6af9b91a8a76f7"), looks := true }, kinds := [], alts := [], laidByText := true, laidKinds := [.data, .data, .data, .data, .sentinel, .sentinel, .pinned], laidTests := true, laidLooks := .later }
def TraceFormatUptoCardSaid : Prop := Claim7.holds Tryz.pinned (.plain (OpenSpec.upto traceFormatSpec)) traceFormatUptoCard
end Rows
end Go.Proofs.YtakdkiggaalimaaGreatDoor
