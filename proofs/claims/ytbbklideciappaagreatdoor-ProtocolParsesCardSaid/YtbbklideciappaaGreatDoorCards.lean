/-
  DERIVED. GIVEN WITH THE SEED: THE CARDS: each row of YtbbklideciappaaGreatDoorRows.lean that lists a variable, with what it lists TIED to the program's text (the seventh form; the later family's looks); each row that meets fmt, with fmt's text TOLD by the authors' own Lean function (tested against real Go, not proved from fmt's source: count such statements apart). THE CARD IS WHAT COUNTS. Prove the row's statement (the work); the ties are given (YtbbklideciappaaGreatDoorTie.lean); close each card by the builder's one call (the guide's Derived/Test/ToyasCard.lean, 'card_holds'). Laid BY PROGRAM, IN A SANDBOX (cutbox-door.mjs). By AI agents, Wed Nov 11 2026. No macro, syntax, notation, axiom, sorry.
-/
import Derived.Test.YtbbklideciappaaGreatDoorRows
import GoSem.ClaimSeven
namespace Go.Proofs.YtbbklideciappaaGreatDoor
namespace Rows

/-- THE TIED CARD OF 'samaritanlaw12.ProtocolValidates'. -/
def protocolValidatesCard : Claim7 := { stood := { row := protocolValidatesRow, standIns := [], harness := (true, "b0e7e0199574cf8ada7cae30331057e06e2c03b2683f6fde1a390e6c4bc5f679"), looks := true }, kinds := [], alts := [], laidByText := true, laidKinds := [.data, .data, .data, .data, .sentinel, .sentinel, .pinned], laidTests := true, laidLooks := .later }
def ProtocolValidatesCardSaid : Prop := Claim7.holds Tryz.pinned (.plain (OpenSpec.ofChange protocolValidatesSpec)) protocolValidatesCard

/-- THE TIED CARD OF 'samaritanlaw12.ProtocolParses'. -/
def protocolParsesCard : Claim7 := { stood := { row := protocolParsesRow, standIns := [], harness := (true, "b0e7e0199574cf8ada7cae30331057e06e2c03b2683f6fde1a390e6c4bc5f679"), looks := true }, kinds := [], alts := [], laidByText := true, laidKinds := [.data, .data, .data, .data, .sentinel, .sentinel, .pinned], laidTests := true, laidLooks := .later }
def ProtocolParsesCardSaid : Prop := Claim7.holds Tryz.pinned (.plain (OpenSpec.ofChange protocolParsesSpec)) protocolParsesCard

/-- THE TIED CARD OF 'samaritanlaw12.ProtocolSuccessors'. -/
def protocolSuccessorsCard : Claim7 := { stood := { row := protocolSuccessorsRow, standIns := [], harness := (true, "b0e7e0199574cf8ada7cae30331057e06e2c03b2683f6fde1a390e6c4bc5f679"), looks := true }, kinds := [], alts := [], laidByText := true, laidKinds := [.data, .data, .data, .data, .sentinel, .sentinel, .pinned], laidTests := true, laidLooks := .later }
def ProtocolSuccessorsCardSaid : Prop := Claim7.holds Tryz.pinned (.plain (OpenSpec.ofChange protocolSuccessorsSpec)) protocolSuccessorsCard

/-- THE TIED CARD OF 'samaritanlaw12.ProtocolFormats'. -/
def protocolFormatsCard : Claim7 := { stood := { row := protocolFormatsRow, standIns := [], harness := (true, "b0e7e0199574cf8ada7cae30331057e06e2c03b2683f6fde1a390e6c4bc5f679"), looks := true }, kinds := [], alts := [], laidByText := true, laidKinds := [.data, .data, .data, .data, .sentinel, .sentinel, .pinned], laidTests := true, laidLooks := .later }
def ProtocolFormatsCardSaid : Prop := Claim7.holds Tryz.pinned (.plain (OpenSpec.ofChange protocolFormatsSpec)) protocolFormatsCard

/-- THE TIED CARD OF 'samaritanlaw12.ProtocolEquality'. -/
def protocolEqualityCard : Claim7 := { stood := { row := protocolEqualityRow, standIns := [], harness := (true, "b0e7e0199574cf8ada7cae30331057e06e2c03b2683f6fde1a390e6c4bc5f679"), looks := true }, kinds := [], alts := [], laidByText := true, laidKinds := [.data, .data, .data, .data, .sentinel, .sentinel, .pinned], laidTests := true, laidLooks := .later }
def ProtocolEqualityCardSaid : Prop := Claim7.holds Tryz.pinned (.plain (OpenSpec.ofChange protocolEqualitySpec)) protocolEqualityCard

/-- THE TIED CARD OF 'samaritanlaw12.ProtocolRoundTrips'. -/
def protocolRoundTripsCard : Claim7 := { stood := { row := protocolRoundTripsRow, standIns := [], harness := (true, "b0e7e0199574cf8ada7cae30331057e06e2c03b2683f6fde1a390e6c4bc5f679"), looks := true }, kinds := [], alts := [], laidByText := true, laidKinds := [.data, .data, .data, .data, .sentinel, .sentinel, .pinned], laidTests := true, laidLooks := .later }
def ProtocolRoundTripsCardSaid : Prop := Claim7.holds Tryz.pinned (.plain (OpenSpec.ofChange protocolRoundTripsSpec)) protocolRoundTripsCard

/-- THE SECOND FORM's CARD OF 'samaritanlaw12.ProtocolValidates'. -/
def protocolValidatesUptoCard : Claim7 := { stood := { row := protocolValidatesUptoRow, standIns := [], harness := (true, "b0e7e0199574cf8ada7cae30331057e06e2c03b2683f6fde1a390e6c4bc5f679"), looks := true }, kinds := [], alts := [], laidByText := true, laidKinds := [.data, .data, .data, .data, .sentinel, .sentinel, .pinned], laidTests := true, laidLooks := .later }
def ProtocolValidatesUptoCardSaid : Prop := Claim7.holds Tryz.pinned (.plain (OpenSpec.upto protocolValidatesSpec)) protocolValidatesUptoCard

/-- THE SECOND FORM's CARD OF 'samaritanlaw12.ProtocolParses'. -/
def protocolParsesUptoCard : Claim7 := { stood := { row := protocolParsesUptoRow, standIns := [], harness := (true, "b0e7e0199574cf8ada7cae30331057e06e2c03b2683f6fde1a390e6c4bc5f679"), looks := true }, kinds := [], alts := [], laidByText := true, laidKinds := [.data, .data, .data, .data, .sentinel, .sentinel, .pinned], laidTests := true, laidLooks := .later }
def ProtocolParsesUptoCardSaid : Prop := Claim7.holds Tryz.pinned (.plain (OpenSpec.upto protocolParsesSpec)) protocolParsesUptoCard

/-- THE SECOND FORM's CARD OF 'samaritanlaw12.ProtocolSuccessors'. -/
def protocolSuccessorsUptoCard : Claim7 := { stood := { row := protocolSuccessorsUptoRow, standIns := [], harness := (true, "b0e7e0199574cf8ada7cae30331057e06e2c03b2683f6fde1a390e6c4bc5f679"), looks := true }, kinds := [], alts := [], laidByText := true, laidKinds := [.data, .data, .data, .data, .sentinel, .sentinel, .pinned], laidTests := true, laidLooks := .later }
def ProtocolSuccessorsUptoCardSaid : Prop := Claim7.holds Tryz.pinned (.plain (OpenSpec.upto protocolSuccessorsSpec)) protocolSuccessorsUptoCard

/-- THE SECOND FORM's CARD OF 'samaritanlaw12.ProtocolFormats'. -/
def protocolFormatsUptoCard : Claim7 := { stood := { row := protocolFormatsUptoRow, standIns := [], harness := (true, "b0e7e0199574cf8ada7cae30331057e06e2c03b2683f6fde1a390e6c4bc5f679"), looks := true }, kinds := [], alts := [], laidByText := true, laidKinds := [.data, .data, .data, .data, .sentinel, .sentinel, .pinned], laidTests := true, laidLooks := .later }
def ProtocolFormatsUptoCardSaid : Prop := Claim7.holds Tryz.pinned (.plain (OpenSpec.upto protocolFormatsSpec)) protocolFormatsUptoCard

/-- THE SECOND FORM's CARD OF 'samaritanlaw12.ProtocolEquality'. -/
def protocolEqualityUptoCard : Claim7 := { stood := { row := protocolEqualityUptoRow, standIns := [], harness := (true, "b0e7e0199574cf8ada7cae30331057e06e2c03b2683f6fde1a390e6c4bc5f679"), looks := true }, kinds := [], alts := [], laidByText := true, laidKinds := [.data, .data, .data, .data, .sentinel, .sentinel, .pinned], laidTests := true, laidLooks := .later }
def ProtocolEqualityUptoCardSaid : Prop := Claim7.holds Tryz.pinned (.plain (OpenSpec.upto protocolEqualitySpec)) protocolEqualityUptoCard

/-- THE SECOND FORM's CARD OF 'samaritanlaw12.ProtocolRoundTrips'. -/
def protocolRoundTripsUptoCard : Claim7 := { stood := { row := protocolRoundTripsUptoRow, standIns := [], harness := (true, "b0e7e0199574cf8ada7cae30331057e06e2c03b2683f6fde1a390e6c4bc5f679"), looks := true }, kinds := [], alts := [], laidByText := true, laidKinds := [.data, .data, .data, .data, .sentinel, .sentinel, .pinned], laidTests := true, laidLooks := .later }
def ProtocolRoundTripsUptoCardSaid : Prop := Claim7.holds Tryz.pinned (.plain (OpenSpec.upto protocolRoundTripsSpec)) protocolRoundTripsUptoCard
end Rows
end Go.Proofs.YtbbklideciappaaGreatDoor
