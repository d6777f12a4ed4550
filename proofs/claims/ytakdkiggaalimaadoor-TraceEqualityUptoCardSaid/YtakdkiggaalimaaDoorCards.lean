/-
  DERIVED. GIVEN WITH THE SEED: THE CARDS: each row of YtakdkiggaalimaaDoorRows.lean that lists a variable, with what it lists TIED to the program's text (the seventh form; the later family's looks); each row that meets fmt, with fmt's text TOLD by the authors' own Lean function (tested against real Go, not proved from fmt's source: count such statements apart). THE CARD IS WHAT COUNTS. Prove the row's statement (the work); the ties are given (YtakdkiggaalimaaDoorTie.lean); close each card by the builder's one call (the guide's Derived/Test/ToyasCard.lean, 'card_holds'). Laid BY PROGRAM, IN A SANDBOX (cutbox-door.mjs). By AI agents, Wed Nov 11 2026. No macro, syntax, notation, axiom, sorry.
-/
import Derived.Test.YtakdkiggaalimaaDoorRows
import GoSem.ClaimSeven
namespace Go.Proofs.YtakdkiggaalimaaDoor
namespace Rows

/-- THE TIED CARD OF 'samaritanlaw51.TraceEquality'. -/
def traceEqualityCard : Claim7 := { stood := { row := traceEqualityRow, standIns := [], harness := (true, "a8f332d25f3c92e585c7ba692177aec5d11150825d577dd125f82cb3bc705776"), looks := true }, kinds := [], alts := [], laidByText := true, laidKinds := [.data, .data, .data, .data, .sentinel, .sentinel, .pinned], laidTests := true, laidLooks := .later }
def TraceEqualityCardSaid : Prop := Claim7.holds Tryd.pinned (.plain (OpenSpec.ofChange traceEqualitySpec)) traceEqualityCard

/-- THE TIED CARD OF 'samaritanlaw51.TraceKindIndex'. -/
def traceKindIndexCard : Claim7 := { stood := { row := traceKindIndexRow, standIns := [], harness := (true, "a8f332d25f3c92e585c7ba692177aec5d11150825d577dd125f82cb3bc705776"), looks := true }, kinds := [], alts := [], laidByText := true, laidKinds := [.data, .data, .data, .data, .sentinel, .sentinel, .pinned], laidTests := true, laidLooks := .later }
def TraceKindIndexCardSaid : Prop := Claim7.holds Tryd.pinned (.plain (OpenSpec.ofChange traceKindIndexSpec)) traceKindIndexCard

/-- THE SECOND FORM's CARD OF 'samaritanlaw51.TraceEquality'. -/
def traceEqualityUptoCard : Claim7 := { stood := { row := traceEqualityUptoRow, standIns := [], harness := (true, "a8f332d25f3c92e585c7ba692177aec5d11150825d577dd125f82cb3bc705776"), looks := true }, kinds := [], alts := [], laidByText := true, laidKinds := [.data, .data, .data, .data, .sentinel, .sentinel, .pinned], laidTests := true, laidLooks := .later }
def TraceEqualityUptoCardSaid : Prop := Claim7.holds Tryd.pinned (.plain (OpenSpec.upto traceEqualitySpec)) traceEqualityUptoCard

/-- THE SECOND FORM's CARD OF 'samaritanlaw51.TraceKindIndex'. -/
def traceKindIndexUptoCard : Claim7 := { stood := { row := traceKindIndexUptoRow, standIns := [], harness := (true, "a8f332d25f3c92e585c7ba692177aec5d11150825d577dd125f82cb3bc705776"), looks := true }, kinds := [], alts := [], laidByText := true, laidKinds := [.data, .data, .data, .data, .sentinel, .sentinel, .pinned], laidTests := true, laidLooks := .later }
def TraceKindIndexUptoCardSaid : Prop := Claim7.holds Tryd.pinned (.plain (OpenSpec.upto traceKindIndexSpec)) traceKindIndexUptoCard
end Rows
end Go.Proofs.YtakdkiggaalimaaDoor
