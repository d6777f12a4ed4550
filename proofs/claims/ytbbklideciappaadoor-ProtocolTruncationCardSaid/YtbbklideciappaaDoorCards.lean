/-
  DERIVED. GIVEN WITH THE SEED: THE CARDS: each row of YtbbklideciappaaDoorRows.lean that lists a variable, with what it lists TIED to the program's text (the seventh form; the later family's looks); each row that meets fmt, with fmt's text TOLD by the authors' own Lean function (tested against real Go, not proved from fmt's source: count such statements apart). THE CARD IS WHAT COUNTS. Prove the row's statement (the work); the ties are given (YtbbklideciappaaDoorTie.lean); close each card by the builder's one call (the guide's Derived/Test/ToyasCard.lean, 'card_holds'). Laid BY PROGRAM, IN A SANDBOX (cutbox-door.mjs). By AI agents, Wed Nov 11 2026. No macro, syntax, notation, axiom, sorry.
-/
import Derived.Test.YtbbklideciappaaDoorRows
import GoSem.ClaimSeven
namespace Go.Proofs.YtbbklideciappaaDoor
namespace Rows

/-- THE TIED CARD OF 'samaritanlaw12.ProtocolTruncation'. -/
def protocolTruncationCard : Claim7 := { stood := { row := protocolTruncationRow, standIns := [], harness := (true, "6f8c567890c414e242834def88824e769dc5ff3d0487b6cc3bdc77e6780f12c6"), looks := true }, kinds := [], alts := [], laidByText := true, laidKinds := [.data, .data, .data, .data, .sentinel, .sentinel, .pinned], laidTests := true, laidLooks := .later }
def ProtocolTruncationCardSaid : Prop := Claim7.holds Tryd.pinned (.plain (OpenSpec.ofChange protocolTruncationSpec)) protocolTruncationCard

/-- THE SECOND FORM's CARD OF 'samaritanlaw12.ProtocolTruncation'. -/
def protocolTruncationUptoCard : Claim7 := { stood := { row := protocolTruncationUptoRow, standIns := [], harness := (true, "6f8c567890c414e242834def88824e769dc5ff3d0487b6cc3bdc77e6780f12c6"), looks := true }, kinds := [], alts := [], laidByText := true, laidKinds := [.data, .data, .data, .data, .sentinel, .sentinel, .pinned], laidTests := true, laidLooks := .later }
def ProtocolTruncationUptoCardSaid : Prop := Claim7.holds Tryd.pinned (.plain (OpenSpec.upto protocolTruncationSpec)) protocolTruncationUptoCard
end Rows
end Go.Proofs.YtbbklideciappaaDoor
