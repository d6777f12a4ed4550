/-
  DERIVED. GIVEN WITH THE SEED: THE CARDS: each row of YtegifbmcapnkdaaDoorRows.lean that lists a variable, with what it lists TIED to the program's text (the seventh form; the later family's looks); each row that meets fmt, with fmt's text TOLD by the authors' own Lean function (tested against real Go, not proved from fmt's source: count such statements apart). THE CARD IS WHAT COUNTS. Prove the row's statement (the work); the ties are given (YtegifbmcapnkdaaDoorTie.lean); close each card by the builder's one call (the guide's Derived/Test/ToyasCard.lean, 'card_holds'). Laid BY PROGRAM, IN A SANDBOX (cutbox-door.mjs). By AI agents, Wed Nov 11 2026. No macro, syntax, notation, axiom, sorry.
-/
import Derived.Test.YtegifbmcapnkdaaDoorRows
import GoSem.ClaimSeven
namespace Go.Proofs.YtegifbmcapnkdaaDoor
namespace Rows

/-- THE TIED CARD OF 'samaritanlaw08.TravelTimesIsolated'. -/
def travelTimesIsolatedCard : Claim7 := { stood := { row := travelTimesIsolatedRow, standIns := [], harness := (true, "53939ed975065904e7eefea072824474976ccf2cb743214085e65d1235b6f4b1"), looks := false }, kinds := [], alts := [], laidByText := true, laidKinds := [.data, .data, .data], laidTests := true, laidLooks := .later }
def TravelTimesIsolatedCardSaid : Prop := Claim7.holds Tryd.pinned (.plain (OpenSpec.ofChange travelTimesIsolatedSpec)) travelTimesIsolatedCard

/-- THE TIED CARD OF 'samaritanlaw08.TravelTimesChanges'. -/
def travelTimesChangesCard : Claim7 := { stood := { row := travelTimesChangesRow, standIns := [], harness := (true, "53939ed975065904e7eefea072824474976ccf2cb743214085e65d1235b6f4b1"), looks := false }, kinds := [], alts := [], laidByText := true, laidKinds := [.data, .data, .data], laidTests := true, laidLooks := .later }
def TravelTimesChangesCardSaid : Prop := Claim7.holds Tryd.pinned (.plain (OpenSpec.ofChange travelTimesChangesSpec)) travelTimesChangesCard

/-- THE TIED CARD OF 'samaritanlaw08.TravelTimesMatchModel'. -/
def travelTimesMatchModelCard : Claim7 := { stood := { row := travelTimesMatchModelRow, standIns := [], harness := (true, "53939ed975065904e7eefea072824474976ccf2cb743214085e65d1235b6f4b1"), looks := false }, kinds := [], alts := [], laidByText := true, laidKinds := [.data, .data, .data], laidTests := true, laidLooks := .later }
def TravelTimesMatchModelCardSaid : Prop := Claim7.holds Tryd.pinned (.plain (OpenSpec.ofChange travelTimesMatchModelSpec)) travelTimesMatchModelCard

/-- THE SECOND FORM's CARD OF 'samaritanlaw08.TravelTimesIsolated'. -/
def travelTimesIsolatedUptoCard : Claim7 := { stood := { row := travelTimesIsolatedUptoRow, standIns := [], harness := (true, "53939ed975065904e7eefea072824474976ccf2cb743214085e65d1235b6f4b1"), looks := false }, kinds := [], alts := [], laidByText := true, laidKinds := [.data, .data, .data], laidTests := true, laidLooks := .later }
def TravelTimesIsolatedUptoCardSaid : Prop := Claim7.holds Tryd.pinned (.plain (OpenSpec.upto travelTimesIsolatedSpec)) travelTimesIsolatedUptoCard

/-- THE SECOND FORM's CARD OF 'samaritanlaw08.TravelTimesChanges'. -/
def travelTimesChangesUptoCard : Claim7 := { stood := { row := travelTimesChangesUptoRow, standIns := [], harness := (true, "53939ed975065904e7eefea072824474976ccf2cb743214085e65d1235b6f4b1"), looks := false }, kinds := [], alts := [], laidByText := true, laidKinds := [.data, .data, .data], laidTests := true, laidLooks := .later }
def TravelTimesChangesUptoCardSaid : Prop := Claim7.holds Tryd.pinned (.plain (OpenSpec.upto travelTimesChangesSpec)) travelTimesChangesUptoCard

/-- THE SECOND FORM's CARD OF 'samaritanlaw08.TravelTimesMatchModel'. -/
def travelTimesMatchModelUptoCard : Claim7 := { stood := { row := travelTimesMatchModelUptoRow, standIns := [], harness := (true, "53939ed975065904e7eefea072824474976ccf2cb743214085e65d1235b6f4b1"), looks := false }, kinds := [], alts := [], laidByText := true, laidKinds := [.data, .data, .data], laidTests := true, laidLooks := .later }
def TravelTimesMatchModelUptoCardSaid : Prop := Claim7.holds Tryd.pinned (.plain (OpenSpec.upto travelTimesMatchModelSpec)) travelTimesMatchModelUptoCard
end Rows
end Go.Proofs.YtegifbmcapnkdaaDoor
