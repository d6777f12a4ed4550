/-
  DERIVED. GIVEN WITH THE SEED: THE CARDS: each row of YtcpplebgocbnhaaDoorRows.lean that lists a variable, with what it lists TIED to the program's text (the seventh form; the later family's looks); each row that meets fmt, with fmt's text TOLD by the authors' own Lean function (tested against real Go, not proved from fmt's source: count such statements apart). THE CARD IS WHAT COUNTS. Prove the row's statement (the work); the ties are given (YtcpplebgocbnhaaDoorTie.lean); close each card by the builder's one call (the guide's Derived/Test/ToyasCard.lean, 'card_holds'). Laid BY PROGRAM, IN A SANDBOX (cutbox-door.mjs). By AI agents, Wed Nov 11 2026. No macro, syntax, notation, axiom, sorry.
-/
import Derived.Test.YtcpplebgocbnhaaDoorRows
import GoSem.ClaimSeven
namespace Go.Proofs.YtcpplebgocbnhaaDoor
namespace Rows

/-- THE TIED CARD OF 'samaritanlaw01.ClockAdd'. -/
def clockAddCard : Claim7 := { stood := { row := clockAddRow, standIns := [], harness := (true, "2bcd34eb32d4e3d51257afab8a4dc59f301b74ae09efbb1db0404a4384775e53"), looks := true }, kinds := [], alts := [], laidByText := true, laidKinds := [.data, .data, .data, .data, .sentinel, .sentinel, .pinned], laidTests := true, laidLooks := .later }
def ClockAddCardSaid : Prop := Claim7.holds Tryd.pinned (.plain (OpenSpec.ofChange clockAddSpec)) clockAddCard

/-- THE TIED CARD OF 'samaritanlaw01.ClockFormat'. -/
def clockFormatCard : Claim7 := { stood := { row := clockFormatRow, standIns := [], harness := (true, "2bcd34eb32d4e3d51257afab8a4dc59f301b74ae09efbb1db0404a4384775e53"), looks := true }, kinds := [], alts := [], laidByText := true, laidKinds := [.data, .data, .data, .data, .sentinel, .sentinel, .pinned], laidTests := true, laidLooks := .later }
def ClockFormatCardSaid : Prop := Claim7.holds Tryd.pinned (.plain (OpenSpec.ofChange clockFormatSpec)) clockFormatCard

/-- THE TIED CARD OF 'samaritanlaw01.ClockParse'. -/
def clockParseCard : Claim7 := { stood := { row := clockParseRow, standIns := [], harness := (true, "2bcd34eb32d4e3d51257afab8a4dc59f301b74ae09efbb1db0404a4384775e53"), looks := true }, kinds := [], alts := [], laidByText := true, laidKinds := [.data, .data, .data, .data, .sentinel, .sentinel, .pinned], laidTests := true, laidLooks := .later }
def ClockParseCardSaid : Prop := Claim7.holds Tryd.pinned (.plain (OpenSpec.ofChange clockParseSpec)) clockParseCard

/-- THE TIED CARD OF 'samaritanlaw01.ClockFormatDuration'. -/
def clockFormatDurationCard : Claim7 := { stood := { row := clockFormatDurationRow, standIns := [], harness := (true, "2bcd34eb32d4e3d51257afab8a4dc59f301b74ae09efbb1db0404a4384775e53"), looks := true }, kinds := [], alts := [], laidByText := true, laidKinds := [.data, .data, .data, .data, .sentinel, .sentinel, .pinned], laidTests := true, laidLooks := .later }
def ClockFormatDurationCardSaid : Prop := Claim7.holds Tryd.pinned (.plain (OpenSpec.ofChange clockFormatDurationSpec)) clockFormatDurationCard

/-- THE TIED CARD OF 'samaritanlaw01.ClockParseDuration'. -/
def clockParseDurationCard : Claim7 := { stood := { row := clockParseDurationRow, standIns := [], harness := (true, "2bcd34eb32d4e3d51257afab8a4dc59f301b74ae09efbb1db0404a4384775e53"), looks := true }, kinds := [], alts := [], laidByText := true, laidKinds := [.data, .data, .data, .data, .sentinel, .sentinel, .pinned], laidTests := true, laidLooks := .later }
def ClockParseDurationCardSaid : Prop := Claim7.holds Tryd.pinned (.plain (OpenSpec.ofChange clockParseDurationSpec)) clockParseDurationCard

/-- THE TIED CARD OF 'samaritanlaw01.ClockAddAssociative'. -/
def clockAddAssociativeCard : Claim7 := { stood := { row := clockAddAssociativeRow, standIns := [], harness := (true, "2bcd34eb32d4e3d51257afab8a4dc59f301b74ae09efbb1db0404a4384775e53"), looks := true }, kinds := [], alts := [], laidByText := true, laidKinds := [.data, .data, .data, .data, .sentinel, .sentinel, .pinned], laidTests := true, laidLooks := .later }
def ClockAddAssociativeCardSaid : Prop := Claim7.holds Tryd.pinned (.plain (OpenSpec.ofChange clockAddAssociativeSpec)) clockAddAssociativeCard

/-- THE TIED CARD OF 'samaritanlaw01.ClockElapsedInverse'. -/
def clockElapsedInverseCard : Claim7 := { stood := { row := clockElapsedInverseRow, standIns := [], harness := (true, "2bcd34eb32d4e3d51257afab8a4dc59f301b74ae09efbb1db0404a4384775e53"), looks := true }, kinds := [], alts := [], laidByText := true, laidKinds := [.data, .data, .data, .data, .sentinel, .sentinel, .pinned], laidTests := true, laidLooks := .later }
def ClockElapsedInverseCardSaid : Prop := Claim7.holds Tryd.pinned (.plain (OpenSpec.ofChange clockElapsedInverseSpec)) clockElapsedInverseCard

/-- THE TIED CARD OF 'samaritanlaw31.ResponseplanTextFormat'. -/
def responseplanTextFormatCard : Claim7 := { stood := { row := responseplanTextFormatRow, standIns := [], harness := (true, "2bcd34eb32d4e3d51257afab8a4dc59f301b74ae09efbb1db0404a4384775e53"), looks := true }, kinds := [], alts := [], laidByText := true, laidKinds := [.data, .data, .data, .data, .sentinel, .sentinel, .data, .pinned], laidTests := true, laidLooks := .later }
def ResponseplanTextFormatCardSaid : Prop := Claim7.holds Tryd.pinned (.plain (OpenSpec.ofChange responseplanTextFormatSpec)) responseplanTextFormatCard

/-- THE SECOND FORM's CARD OF 'samaritanlaw01.ClockAdd'. -/
def clockAddUptoCard : Claim7 := { stood := { row := clockAddUptoRow, standIns := [], harness := (true, "2bcd34eb32d4e3d51257afab8a4dc59f301b74ae09efbb1db0404a4384775e53"), looks := true }, kinds := [], alts := [], laidByText := true, laidKinds := [.data, .data, .data, .data, .sentinel, .sentinel, .pinned], laidTests := true, laidLooks := .later }
def ClockAddUptoCardSaid : Prop := Claim7.holds Tryd.pinned (.plain (OpenSpec.upto clockAddSpec)) clockAddUptoCard

/-- THE SECOND FORM's CARD OF 'samaritanlaw01.ClockFormat'. -/
def clockFormatUptoCard : Claim7 := { stood := { row := clockFormatUptoRow, standIns := [], harness := (true, "2bcd34eb32d4e3d51257afab8a4dc59f301b74ae09efbb1db0404a4384775e53"), looks := true }, kinds := [], alts := [], laidByText := true, laidKinds := [.data, .data, .data, .data, .sentinel, .sentinel, .pinned], laidTests := true, laidLooks := .later }
def ClockFormatUptoCardSaid : Prop := Claim7.holds Tryd.pinned (.plain (OpenSpec.upto clockFormatSpec)) clockFormatUptoCard

/-- THE SECOND FORM's CARD OF 'samaritanlaw01.ClockParse'. -/
def clockParseUptoCard : Claim7 := { stood := { row := clockParseUptoRow, standIns := [], harness := (true, "2bcd34eb32d4e3d51257afab8a4dc59f301b74ae09efbb1db0404a4384775e53"), looks := true }, kinds := [], alts := [], laidByText := true, laidKinds := [.data, .data, .data, .data, .sentinel, .sentinel, .pinned], laidTests := true, laidLooks := .later }
def ClockParseUptoCardSaid : Prop := Claim7.holds Tryd.pinned (.plain (OpenSpec.upto clockParseSpec)) clockParseUptoCard

/-- THE SECOND FORM's CARD OF 'samaritanlaw01.ClockFormatDuration'. -/
def clockFormatDurationUptoCard : Claim7 := { stood := { row := clockFormatDurationUptoRow, standIns := [], harness := (true, "2bcd34eb32d4e3d51257afab8a4dc59f301b74ae09efbb1db0404a4384775e53"), looks := true }, kinds := [], alts := [], laidByText := true, laidKinds := [.data, .data, .data, .data, .sentinel, .sentinel, .pinned], laidTests := true, laidLooks := .later }
def ClockFormatDurationUptoCardSaid : Prop := Claim7.holds Tryd.pinned (.plain (OpenSpec.upto clockFormatDurationSpec)) clockFormatDurationUptoCard

/-- THE SECOND FORM's CARD OF 'samaritanlaw01.ClockParseDuration'. -/
def clockParseDurationUptoCard : Claim7 := { stood := { row := clockParseDurationUptoRow, standIns := [], harness := (true, "2bcd34eb32d4e3d51257afab8a4dc59f301b74ae09efbb1db0404a4384775e53"), looks := true }, kinds := [], alts := [], laidByText := true, laidKinds := [.data, .data, .data, .data, .sentinel, .sentinel, .pinned], laidTests := true, laidLooks := .later }
def ClockParseDurationUptoCardSaid : Prop := Claim7.holds Tryd.pinned (.plain (OpenSpec.upto clockParseDurationSpec)) clockParseDurationUptoCard

/-- THE SECOND FORM's CARD OF 'samaritanlaw01.ClockAddAssociative'. -/
def clockAddAssociativeUptoCard : Claim7 := { stood := { row := clockAddAssociativeUptoRow, standIns := [], harness := (true, "2bcd34eb32d4e3d51257afab8a4dc59f301b74ae09efbb1db0404a4384775e53"), looks := true }, kinds := [], alts := [], laidByText := true, laidKinds := [.data, .data, .data, .data, .sentinel, .sentinel, .pinned], laidTests := true, laidLooks := .later }
def ClockAddAssociativeUptoCardSaid : Prop := Claim7.holds Tryd.pinned (.plain (OpenSpec.upto clockAddAssociativeSpec)) clockAddAssociativeUptoCard

/-- THE SECOND FORM's CARD OF 'samaritanlaw01.ClockElapsedInverse'. -/
def clockElapsedInverseUptoCard : Claim7 := { stood := { row := clockElapsedInverseUptoRow, standIns := [], harness := (true, "2bcd34eb32d4e3d51257afab8a4dc59f301b74ae09efbb1db0404a4384775e53"), looks := true }, kinds := [], alts := [], laidByText := true, laidKinds := [.data, .data, .data, .data, .sentinel, .sentinel, .pinned], laidTests := true, laidLooks := .later }
def ClockElapsedInverseUptoCardSaid : Prop := Claim7.holds Tryd.pinned (.plain (OpenSpec.upto clockElapsedInverseSpec)) clockElapsedInverseUptoCard

/-- THE SECOND FORM's CARD OF 'samaritanlaw31.ResponseplanTextFormat'. -/
def responseplanTextFormatUptoCard : Claim7 := { stood := { row := responseplanTextFormatUptoRow, standIns := [], harness := (true, "2bcd34eb32d4e3d51257afab8a4dc59f301b74ae09efbb1db0404a4384775e53"), looks := true }, kinds := [], alts := [], laidByText := true, laidKinds := [.data, .data, .data, .data, .sentinel, .sentinel, .data, .pinned], laidTests := true, laidLooks := .later }
def ResponseplanTextFormatUptoCardSaid : Prop := Claim7.holds Tryd.pinned (.plain (OpenSpec.upto responseplanTextFormatSpec)) responseplanTextFormatUptoCard
end Rows
end Go.Proofs.YtcpplebgocbnhaaDoor
