/-
  DERIVED. GIVEN WITH THE SEED: THE CARDS: each row of YtppbmnlneoinhaaDoorRows.lean that lists a variable, with what it lists TIED to the program's text (the seventh form; the later family's looks); each row that meets fmt, with fmt's text TOLD by the authors' own Lean function (tested against real Go, not proved from fmt's source: count such statements apart). THE CARD IS WHAT COUNTS. Prove the row's statement (the work); the ties are given (YtppbmnlneoinhaaDoorTie.lean); close each card by the builder's one call (the guide's Derived/Test/ToyasCard.lean, 'card_holds'). Laid BY PROGRAM, IN A SANDBOX (cutbox-door.mjs). By AI agents, Wed Nov 11 2026. No macro, syntax, notation, axiom, sorry.
-/
import Derived.Test.YtppbmnlneoinhaaDoorRows
import GoSem.ClaimSeven
namespace Go.Proofs.YtppbmnlneoinhaaDoor
namespace Rows

/-- THE TIED CARD OF 'samaritanlaw08.TravelTimesFormat'. -/
def travelTimesFormatCard : Claim7 := { stood := { row := travelTimesFormatRow, standIns := [], harness := (true, "de277bb4c3b38cc45139c479a67fabe60a23138902f58b45080b610f2855ed15"), looks := true }, kinds := [], alts := [], laidByText := true, laidKinds := [.data, .data, .data, .data, .sentinel, .sentinel, .pinned], laidTests := true, laidLooks := .later }
def TravelTimesFormatCardSaid : Prop := Claim7.holds Tryd.pinned (.plain (OpenSpec.ofChange travelTimesFormatSpec)) travelTimesFormatCard

/-- THE TIED CARD OF 'samaritanlaw08.TravelTimesParse'. -/
def travelTimesParseCard : Claim7 := { stood := { row := travelTimesParseRow, standIns := [], harness := (true, "de277bb4c3b38cc45139c479a67fabe60a23138902f58b45080b610f2855ed15"), looks := true }, kinds := [], alts := [], laidByText := true, laidKinds := [.data, .data, .data, .data, .sentinel, .sentinel, .pinned], laidTests := true, laidLooks := .later }
def TravelTimesParseCardSaid : Prop := Claim7.holds Tryd.pinned (.plain (OpenSpec.ofChange travelTimesParseSpec)) travelTimesParseCard

/-- THE TIED CARD OF 'samaritanlaw08.TravelTimesInitial'. -/
def travelTimesInitialCard : Claim7 := { stood := { row := travelTimesInitialRow, standIns := [], harness := (true, "de277bb4c3b38cc45139c479a67fabe60a23138902f58b45080b610f2855ed15"), looks := true }, kinds := [], alts := [], laidByText := true, laidKinds := [.data, .data, .data, .data, .sentinel, .sentinel, .pinned], laidTests := true, laidLooks := .later }
def TravelTimesInitialCardSaid : Prop := Claim7.holds Tryd.pinned (.plain (OpenSpec.ofChange travelTimesInitialSpec)) travelTimesInitialCard

/-- THE SECOND FORM's CARD OF 'samaritanlaw08.TravelTimesFormat'. -/
def travelTimesFormatUptoCard : Claim7 := { stood := { row := travelTimesFormatUptoRow, standIns := [], harness := (true, "de277bb4c3b38cc45139c479a67fabe60a23138902f58b45080b610f2855ed15"), looks := true }, kinds := [], alts := [], laidByText := true, laidKinds := [.data, .data, .data, .data, .sentinel, .sentinel, .pinned], laidTests := true, laidLooks := .later }
def TravelTimesFormatUptoCardSaid : Prop := Claim7.holds Tryd.pinned (.plain (OpenSpec.upto travelTimesFormatSpec)) travelTimesFormatUptoCard

/-- THE SECOND FORM's CARD OF 'samaritanlaw08.TravelTimesParse'. -/
def travelTimesParseUptoCard : Claim7 := { stood := { row := travelTimesParseUptoRow, standIns := [], harness := (true, "de277bb4c3b38cc45139c479a67fabe60a23138902f58b45080b610f2855ed15"), looks := true }, kinds := [], alts := [], laidByText := true, laidKinds := [.data, .data, .data, .data, .sentinel, .sentinel, .pinned], laidTests := true, laidLooks := .later }
def TravelTimesParseUptoCardSaid : Prop := Claim7.holds Tryd.pinned (.plain (OpenSpec.upto travelTimesParseSpec)) travelTimesParseUptoCard

/-- THE SECOND FORM's CARD OF 'samaritanlaw08.TravelTimesInitial'. -/
def travelTimesInitialUptoCard : Claim7 := { stood := { row := travelTimesInitialUptoRow, standIns := [], harness := (true, "de277bb4c3b38cc45139c479a67fabe60a23138902f58b45080b610f2855ed15"), looks := true }, kinds := [], alts := [], laidByText := true, laidKinds := [.data, .data, .data, .data, .sentinel, .sentinel, .pinned], laidTests := true, laidLooks := .later }
def TravelTimesInitialUptoCardSaid : Prop := Claim7.holds Tryd.pinned (.plain (OpenSpec.upto travelTimesInitialSpec)) travelTimesInitialUptoCard
end Rows
end Go.Proofs.YtppbmnlneoinhaaDoor
