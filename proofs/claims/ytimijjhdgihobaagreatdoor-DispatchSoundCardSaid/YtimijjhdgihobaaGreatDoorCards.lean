/-
  DERIVED. GIVEN WITH THE SEED: THE CARDS: each row of YtimijjhdgihobaaGreatDoorRows.lean that lists a variable, with what it lists TIED to the program's text (the seventh form; the later family's looks); each row that meets fmt, with fmt's text TOLD by the authors' own Lean function (tested against real Go, not proved from fmt's source: count such statements apart). THE CARD IS WHAT COUNTS. Prove the row's statement (the work); the ties are given (YtimijjhdgihobaaGreatDoorTie.lean); close each card by the builder's one call (the guide's Derived/Test/ToyasCard.lean, 'card_holds'). Laid BY PROGRAM, IN A SANDBOX (cutbox-door.mjs). By AI agents, Wed Nov 11 2026. No macro, syntax, notation, axiom, sorry.
-/
import Derived.Test.YtimijjhdgihobaaGreatDoorRows
import GoSem.ClaimSeven
namespace Go.Proofs.YtimijjhdgihobaaGreatDoor
namespace Rows

/-- THE TIED CARD OF 'samaritanlaw38.DispatchAssign'. -/
def dispatchAssignCard : Claim7 := { stood := { row := dispatchAssignRow, standIns := [], harness := (true, "8d18e283efe89ae2cbb7ce990a637212ea0e9049f76a180ef75bb720f0ed9775"), looks := false }, kinds := [], alts := [], laidByText := true, laidKinds := [.data, .data, .data, .data], laidTests := true, laidLooks := .later }
def DispatchAssignCardSaid : Prop := Claim7.holds Tryz.pinned (.plain (OpenSpec.ofChange dispatchAssignSpec)) dispatchAssignCard

/-- THE TIED CARD OF 'samaritanlaw38.DispatchSound'. -/
def dispatchSoundCard : Claim7 := { stood := { row := dispatchSoundRow, standIns := [], harness := (true, "8d18e283efe89ae2cbb7ce990a637212ea0e9049f76a180ef75bb720f0ed9775"), looks := false }, kinds := [], alts := [], laidByText := true, laidKinds := [.data, .data, .data, .data], laidTests := true, laidLooks := .later }
def DispatchSoundCardSaid : Prop := Claim7.holds Tryz.pinned (.plain (OpenSpec.ofChange dispatchSoundSpec)) dispatchSoundCard

/-- THE TIED CARD OF 'samaritanlaw38.DispatchVerify'. -/
def dispatchVerifyCard : Claim7 := { stood := { row := dispatchVerifyRow, standIns := [], harness := (true, "8d18e283efe89ae2cbb7ce990a637212ea0e9049f76a180ef75bb720f0ed9775"), looks := false }, kinds := [], alts := [], laidByText := true, laidKinds := [.data, .data, .data, .data], laidTests := true, laidLooks := .later }
def DispatchVerifyCardSaid : Prop := Claim7.holds Tryz.pinned (.plain (OpenSpec.ofChange dispatchVerifySpec)) dispatchVerifyCard

/-- THE SECOND FORM's CARD OF 'samaritanlaw38.DispatchAssign'. -/
def dispatchAssignUptoCard : Claim7 := { stood := { row := dispatchAssignUptoRow, standIns := [], harness := (true, "8d18e283efe89ae2cbb7ce990a637212ea0e9049f76a180ef75bb720f0ed9775"), looks := false }, kinds := [], alts := [], laidByText := true, laidKinds := [.data, .data, .data, .data], laidTests := true, laidLooks := .later }
def DispatchAssignUptoCardSaid : Prop := Claim7.holds Tryz.pinned (.plain (OpenSpec.upto dispatchAssignSpec)) dispatchAssignUptoCard

/-- THE SECOND FORM's CARD OF 'samaritanlaw38.DispatchSound'. -/
def dispatchSoundUptoCard : Claim7 := { stood := { row := dispatchSoundUptoRow, standIns := [], harness := (true, "8d18e283efe89ae2cbb7ce990a637212ea0e9049f76a180ef75bb720f0ed9775"), looks := false }, kinds := [], alts := [], laidByText := true, laidKinds := [.data, .data, .data, .data], laidTests := true, laidLooks := .later }
def DispatchSoundUptoCardSaid : Prop := Claim7.holds Tryz.pinned (.plain (OpenSpec.upto dispatchSoundSpec)) dispatchSoundUptoCard

/-- THE SECOND FORM's CARD OF 'samaritanlaw38.DispatchVerify'. -/
def dispatchVerifyUptoCard : Claim7 := { stood := { row := dispatchVerifyUptoRow, standIns := [], harness := (true, "8d18e283efe89ae2cbb7ce990a637212ea0e9049f76a180ef75bb720f0ed9775"), looks := false }, kinds := [], alts := [], laidByText := true, laidKinds := [.data, .data, .data, .data], laidTests := true, laidLooks := .later }
def DispatchVerifyUptoCardSaid : Prop := Claim7.holds Tryz.pinned (.plain (OpenSpec.upto dispatchVerifySpec)) dispatchVerifyUptoCard
end Rows
end Go.Proofs.YtimijjhdgihobaaGreatDoor
