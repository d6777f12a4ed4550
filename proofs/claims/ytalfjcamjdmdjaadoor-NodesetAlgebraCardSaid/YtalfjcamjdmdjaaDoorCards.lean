/-
  DERIVED. GIVEN WITH THE SEED: THE CARDS: each row of YtalfjcamjdmdjaaDoorRows.lean that lists a variable, with what it lists TIED to the program's text (the seventh form; the later family's looks); each row that meets fmt, with fmt's text TOLD by the authors' own Lean function (tested against real Go, not proved from fmt's source: count such statements apart). THE CARD IS WHAT COUNTS. Prove the row's statement (the work); the ties are given (YtalfjcamjdmdjaaDoorTie.lean); close each card by the builder's one call (the guide's Derived/Test/ToyasCard.lean, 'card_holds'). Laid BY PROGRAM, IN A SANDBOX (cutbox-door.mjs). By AI agents, Wed Nov 11 2026. No macro, syntax, notation, axiom, sorry.
-/
import Derived.Test.YtalfjcamjdmdjaaDoorRows
import GoSem.ClaimSeven
namespace Go.Proofs.YtalfjcamjdmdjaaDoor
namespace Rows

/-- THE TIED CARD OF 'samaritanlaw02.NodesetEach'. -/
def nodesetEachCard : Claim7 := { stood := { row := nodesetEachRow, standIns := [], harness := (true, "2f888c3887c7c5b24f5a9a0c0e22c84fff7a01b42a845dbae73678ac35bd6b08"), looks := true }, kinds := [], alts := [], laidByText := true, laidKinds := [.data, .data, .data, .data, .sentinel, .sentinel, .pinned], laidTests := true, laidLooks := .later }
def NodesetEachCardSaid : Prop := Claim7.holds Tryd.pinned (.plain (OpenSpec.ofChange nodesetEachSpec)) nodesetEachCard

/-- THE TIED CARD OF 'samaritanlaw02.NodesetString'. -/
def nodesetStringCard : Claim7 := { stood := { row := nodesetStringRow, standIns := [], harness := (true, "2f888c3887c7c5b24f5a9a0c0e22c84fff7a01b42a845dbae73678ac35bd6b08"), looks := true }, kinds := [], alts := [], laidByText := true, laidKinds := [.data, .data, .data, .data, .sentinel, .sentinel, .pinned], laidTests := true, laidLooks := .later }
def NodesetStringCardSaid : Prop := Claim7.holds Tryd.pinned (.plain (OpenSpec.ofChange nodesetStringSpec)) nodesetStringCard

/-- THE TIED CARD OF 'samaritanlaw02.NodesetParse'. -/
def nodesetParseCard : Claim7 := { stood := { row := nodesetParseRow, standIns := [], harness := (true, "2f888c3887c7c5b24f5a9a0c0e22c84fff7a01b42a845dbae73678ac35bd6b08"), looks := true }, kinds := [], alts := [], laidByText := true, laidKinds := [.data, .data, .data, .data, .sentinel, .sentinel, .pinned], laidTests := true, laidLooks := .later }
def NodesetParseCardSaid : Prop := Claim7.holds Tryd.pinned (.plain (OpenSpec.ofChange nodesetParseSpec)) nodesetParseCard

/-- THE TIED CARD OF 'samaritanlaw02.NodesetOf'. -/
def nodesetOfCard : Claim7 := { stood := { row := nodesetOfRow, standIns := [], harness := (true, "2f888c3887c7c5b24f5a9a0c0e22c84fff7a01b42a845dbae73678ac35bd6b08"), looks := true }, kinds := [], alts := [], laidByText := true, laidKinds := [.data, .data, .data, .data, .sentinel, .sentinel, .pinned], laidTests := true, laidLooks := .later }
def NodesetOfCardSaid : Prop := Claim7.holds Tryd.pinned (.plain (OpenSpec.ofChange nodesetOfSpec)) nodesetOfCard

/-- THE TIED CARD OF 'samaritanlaw02.NodesetAll'. -/
def nodesetAllCard : Claim7 := { stood := { row := nodesetAllRow, standIns := [], harness := (true, "2f888c3887c7c5b24f5a9a0c0e22c84fff7a01b42a845dbae73678ac35bd6b08"), looks := true }, kinds := [], alts := [], laidByText := true, laidKinds := [.data, .data, .data, .data, .sentinel, .sentinel, .pinned], laidTests := true, laidLooks := .later }
def NodesetAllCardSaid : Prop := Claim7.holds Tryd.pinned (.plain (OpenSpec.ofChange nodesetAllSpec)) nodesetAllCard

/-- THE TIED CARD OF 'samaritanlaw02.NodesetAlgebra'. -/
def nodesetAlgebraCard : Claim7 := { stood := { row := nodesetAlgebraRow, standIns := [], harness := (true, "2f888c3887c7c5b24f5a9a0c0e22c84fff7a01b42a845dbae73678ac35bd6b08"), looks := true }, kinds := [], alts := [], laidByText := true, laidKinds := [.data, .data, .data, .data, .sentinel, .sentinel, .pinned], laidTests := true, laidLooks := .later }
def NodesetAlgebraCardSaid : Prop := Claim7.holds Tryd.pinned (.plain (OpenSpec.ofChange nodesetAlgebraSpec)) nodesetAlgebraCard

/-- THE TIED CARD OF 'samaritanlaw02.NodesetOperations'. -/
def nodesetOperationsCard : Claim7 := { stood := { row := nodesetOperationsRow, standIns := [], harness := (true, "2f888c3887c7c5b24f5a9a0c0e22c84fff7a01b42a845dbae73678ac35bd6b08"), looks := true }, kinds := [], alts := [], laidByText := true, laidKinds := [.data, .data, .data, .data, .sentinel, .sentinel, .pinned], laidTests := true, laidLooks := .later }
def NodesetOperationsCardSaid : Prop := Claim7.holds Tryd.pinned (.plain (OpenSpec.ofChange nodesetOperationsSpec)) nodesetOperationsCard

/-- THE SECOND FORM's CARD OF 'samaritanlaw02.NodesetEach'. -/
def nodesetEachUptoCard : Claim7 := { stood := { row := nodesetEachUptoRow, standIns := [], harness := (true, "2f888c3887c7c5b24f5a9a0c0e22c84fff7a01b42a845dbae73678ac35bd6b08"), looks := true }, kinds := [], alts := [], laidByText := true, laidKinds := [.data, .data, .data, .data, .sentinel, .sentinel, .pinned], laidTests := true, laidLooks := .later }
def NodesetEachUptoCardSaid : Prop := Claim7.holds Tryd.pinned (.plain (OpenSpec.upto nodesetEachSpec)) nodesetEachUptoCard

/-- THE SECOND FORM's CARD OF 'samaritanlaw02.NodesetString'. -/
def nodesetStringUptoCard : Claim7 := { stood := { row := nodesetStringUptoRow, standIns := [], harness := (true, "2f888c3887c7c5b24f5a9a0c0e22c84fff7a01b42a845dbae73678ac35bd6b08"), looks := true }, kinds := [], alts := [], laidByText := true, laidKinds := [.data, .data, .data, .data, .sentinel, .sentinel, .pinned], laidTests := true, laidLooks := .later }
def NodesetStringUptoCardSaid : Prop := Claim7.holds Tryd.pinned (.plain (OpenSpec.upto nodesetStringSpec)) nodesetStringUptoCard

/-- THE SECOND FORM's CARD OF 'samaritanlaw02.NodesetParse'. -/
def nodesetParseUptoCard : Claim7 := { stood := { row := nodesetParseUptoRow, standIns := [], harness := (true, "2f888c3887c7c5b24f5a9a0c0e22c84fff7a01b42a845dbae73678ac35bd6b08"), looks := true }, kinds := [], alts := [], laidByText := true, laidKinds := [.data, .data, .data, .data, .sentinel, .sentinel, .pinned], laidTests := true, laidLooks := .later }
def NodesetParseUptoCardSaid : Prop := Claim7.holds Tryd.pinned (.plain (OpenSpec.upto nodesetParseSpec)) nodesetParseUptoCard

/-- THE SECOND FORM's CARD OF 'samaritanlaw02.NodesetOf'. -/
def nodesetOfUptoCard : Claim7 := { stood := { row := nodesetOfUptoRow, standIns := [], harness := (true, "2f888c3887c7c5b24f5a9a0c0e22c84fff7a01b42a845dbae73678ac35bd6b08"), looks := true }, kinds := [], alts := [], laidByText := true, laidKinds := [.data, .data, .data, .data, .sentinel, .sentinel, .pinned], laidTests := true, laidLooks := .later }
def NodesetOfUptoCardSaid : Prop := Claim7.holds Tryd.pinned (.plain (OpenSpec.upto nodesetOfSpec)) nodesetOfUptoCard

/-- THE SECOND FORM's CARD OF 'samaritanlaw02.NodesetAll'. -/
def nodesetAllUptoCard : Claim7 := { stood := { row := nodesetAllUptoRow, standIns := [], harness := (true, "2f888c3887c7c5b24f5a9a0c0e22c84fff7a01b42a845dbae73678ac35bd6b08"), looks := true }, kinds := [], alts := [], laidByText := true, laidKinds := [.data, .data, .data, .data, .sentinel, .sentinel, .pinned], laidTests := true, laidLooks := .later }
def NodesetAllUptoCardSaid : Prop := Claim7.holds Tryd.pinned (.plain (OpenSpec.upto nodesetAllSpec)) nodesetAllUptoCard

/-- THE SECOND FORM's CARD OF 'samaritanlaw02.NodesetAlgebra'. -/
def nodesetAlgebraUptoCard : Claim7 := { stood := { row := nodesetAlgebraUptoRow, standIns := [], harness := (true, "2f888c3887c7c5b24f5a9a0c0e22c84fff7a01b42a845dbae73678ac35bd6b08"), looks := true }, kinds := [], alts := [], laidByText := true, laidKinds := [.data, .data, .data, .data, .sentinel, .sentinel, .pinned], laidTests := true, laidLooks := .later }
def NodesetAlgebraUptoCardSaid : Prop := Claim7.holds Tryd.pinned (.plain (OpenSpec.upto nodesetAlgebraSpec)) nodesetAlgebraUptoCard

/-- THE SECOND FORM's CARD OF 'samaritanlaw02.NodesetOperations'. -/
def nodesetOperationsUptoCard : Claim7 := { stood := { row := nodesetOperationsUptoRow, standIns := [], harness := (true, "2f888c3887c7c5b24f5a9a0c0e22c84fff7a01b42a845dbae73678ac35bd6b08"), looks := true }, kinds := [], alts := [], laidByText := true, laidKinds := [.data, .data, .data, .data, .sentinel, .sentinel, .pinned], laidTests := true, laidLooks := .later }
def NodesetOperationsUptoCardSaid : Prop := Claim7.holds Tryd.pinned (.plain (OpenSpec.upto nodesetOperationsSpec)) nodesetOperationsUptoCard
end Rows
end Go.Proofs.YtalfjcamjdmdjaaDoor
