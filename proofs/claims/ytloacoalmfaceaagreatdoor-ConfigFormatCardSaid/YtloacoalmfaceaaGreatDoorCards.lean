/-
  DERIVED. GIVEN WITH THE SEED: THE CARDS: each row of YtloacoalmfaceaaGreatDoorRows.lean that lists a variable, with what it lists TIED to the program's text (the seventh form; the later family's looks); each row that meets fmt, with fmt's text TOLD by the authors' own Lean function (tested against real Go, not proved from fmt's source: count such statements apart). THE CARD IS WHAT COUNTS. Prove the row's statement (the work); the ties are given (YtloacoalmfaceaaGreatDoorTie.lean); close each card by the builder's one call (the guide's Derived/Test/ToyasCard.lean, 'card_holds'). Laid BY PROGRAM, IN A SANDBOX (cutbox-door.mjs). By AI agents, Wed Nov 11 2026. No macro, syntax, notation, axiom, sorry.
-/
import Derived.Test.YtloacoalmfaceaaGreatDoorRows
import GoSem.ClaimSeven
namespace Go.Proofs.YtloacoalmfaceaaGreatDoor
namespace Rows

/-- THE TIED CARD OF 'samaritanlaw06.ConfigValidate'. -/
def configValidateCard : Claim7 := { stood := { row := configValidateRow, standIns := [], harness := (true, "098b4cd7446938c1b2bdc233f1bd20dcf947c448761680b586c3ef09e7a33809"), looks := true }, kinds := [], alts := [], laidByText := true, laidKinds := [.data, .data, .data, .data, .sentinel, .sentinel, .data, .pinned], laidTests := true, laidLooks := .later }
def ConfigValidateCardSaid : Prop := Claim7.holds Tryz.pinned (.plain (OpenSpec.ofChange configValidateSpec)) configValidateCard

/-- THE TIED CARD OF 'samaritanlaw06.ConfigFormat'. -/
def configFormatCard : Claim7 := { stood := { row := configFormatRow, standIns := [], harness := (true, "098b4cd7446938c1b2bdc233f1bd20dcf947c448761680b586c3ef09e7a33809"), looks := true }, kinds := [], alts := [], laidByText := true, laidKinds := [.data, .data, .data, .data, .sentinel, .sentinel, .data, .pinned], laidTests := true, laidLooks := .later }
def ConfigFormatCardSaid : Prop := Claim7.holds Tryz.pinned (.plain (OpenSpec.ofChange configFormatSpec)) configFormatCard

/-- THE TIED CARD OF 'samaritanlaw06.ConfigParameters'. -/
def configParametersCard : Claim7 := { stood := { row := configParametersRow, standIns := [], harness := (true, "098b4cd7446938c1b2bdc233f1bd20dcf947c448761680b586c3ef09e7a33809"), looks := true }, kinds := [], alts := [], laidByText := true, laidKinds := [.data, .data, .data, .data, .sentinel, .sentinel, .data, .pinned], laidTests := true, laidLooks := .later }
def ConfigParametersCardSaid : Prop := Claim7.holds Tryz.pinned (.plain (OpenSpec.ofChange configParametersSpec)) configParametersCard

/-- THE TIED CARD OF 'samaritanlaw06.ConfigTooLong'. -/
def configTooLongCard : Claim7 := { stood := { row := configTooLongRow, standIns := [], harness := (true, "098b4cd7446938c1b2bdc233f1bd20dcf947c448761680b586c3ef09e7a33809"), looks := true }, kinds := [], alts := [], laidByText := true, laidKinds := [.data, .data, .data, .data, .sentinel, .sentinel, .data, .pinned], laidTests := true, laidLooks := .later }
def ConfigTooLongCardSaid : Prop := Claim7.holds Tryz.pinned (.plain (OpenSpec.ofChange configTooLongSpec)) configTooLongCard

/-- THE TIED CARD OF 'samaritanlaw06.ConfigEqual'. -/
def configEqualCard : Claim7 := { stood := { row := configEqualRow, standIns := [], harness := (true, "098b4cd7446938c1b2bdc233f1bd20dcf947c448761680b586c3ef09e7a33809"), looks := true }, kinds := [], alts := [], laidByText := true, laidKinds := [.data, .data, .data, .data, .sentinel, .sentinel, .data, .pinned], laidTests := true, laidLooks := .later }
def ConfigEqualCardSaid : Prop := Claim7.holds Tryz.pinned (.plain (OpenSpec.ofChange configEqualSpec)) configEqualCard

/-- THE SECOND FORM's CARD OF 'samaritanlaw06.ConfigValidate'. -/
def configValidateUptoCard : Claim7 := { stood := { row := configValidateUptoRow, standIns := [], harness := (true, "098b4cd7446938c1b2bdc233f1bd20dcf947c448761680b586c3ef09e7a33809"), looks := true }, kinds := [], alts := [], laidByText := true, laidKinds := [.data, .data, .data, .data, .sentinel, .sentinel, .data, .pinned], laidTests := true, laidLooks := .later }
def ConfigValidateUptoCardSaid : Prop := Claim7.holds Tryz.pinned (.plain (OpenSpec.upto configValidateSpec)) configValidateUptoCard

/-- THE SECOND FORM's CARD OF 'samaritanlaw06.ConfigFormat'. -/
def configFormatUptoCard : Claim7 := { stood := { row := configFormatUptoRow, standIns := [], harness := (true, "098b4cd7446938c1b2bdc233f1bd20dcf947c448761680b586c3ef09e7a33809"), looks := true }, kinds := [], alts := [], laidByText := true, laidKinds := [.data, .data, .data, .data, .sentinel, .sentinel, .data, .pinned], laidTests := true, laidLooks := .later }
def ConfigFormatUptoCardSaid : Prop := Claim7.holds Tryz.pinned (.plain (OpenSpec.upto configFormatSpec)) configFormatUptoCard

/-- THE SECOND FORM's CARD OF 'samaritanlaw06.ConfigParameters'. -/
def configParametersUptoCard : Claim7 := { stood := { row := configParametersUptoRow, standIns := [], harness := (true, "098b4cd7446938c1b2bdc233f1bd20dcf947c448761680b586c3ef09e7a33809"), looks := true }, kinds := [], alts := [], laidByText := true, laidKinds := [.data, .data, .data, .data, .sentinel, .sentinel, .data, .pinned], laidTests := true, laidLooks := .later }
def ConfigParametersUptoCardSaid : Prop := Claim7.holds Tryz.pinned (.plain (OpenSpec.upto configParametersSpec)) configParametersUptoCard

/-- THE SECOND FORM's CARD OF 'samaritanlaw06.ConfigTooLong'. -/
def configTooLongUptoCard : Claim7 := { stood := { row := configTooLongUptoRow, standIns := [], harness := (true, "098b4cd7446938c1b2bdc233f1bd20dcf947c448761680b586c3ef09e7a33809"), looks := true }, kinds := [], alts := [], laidByText := true, laidKinds := [.data, .data, .data, .data, .sentinel, .sentinel, .data, .pinned], laidTests := true, laidLooks := .later }
def ConfigTooLongUptoCardSaid : Prop := Claim7.holds Tryz.pinned (.plain (OpenSpec.upto configTooLongSpec)) configTooLongUptoCard

/-- THE SECOND FORM's CARD OF 'samaritanlaw06.ConfigEqual'. -/
def configEqualUptoCard : Claim7 := { stood := { row := configEqualUptoRow, standIns := [], harness := (true, "098b4cd7446938c1b2bdc233f1bd20dcf947c448761680b586c3ef09e7a33809"), looks := true }, kinds := [], alts := [], laidByText := true, laidKinds := [.data, .data, .data, .data, .sentinel, .sentinel, .data, .pinned], laidTests := true, laidLooks := .later }
def ConfigEqualUptoCardSaid : Prop := Claim7.holds Tryz.pinned (.plain (OpenSpec.upto configEqualSpec)) configEqualUptoCard
end Rows
end Go.Proofs.YtloacoalmfaceaaGreatDoor
