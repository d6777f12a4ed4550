/-
  No cell of these rows narrows 'for every input' (looked for: loops, veiled, ifaces, maps, wideKeys, modest, calm, conditions, laid).
  DERIVED. THE GIVEN ROWS OF THIS SEAT. 6 by the template 'for every input the law returns true; each argument reads behind the call as it read before'; 0 by the template 'total and deterministic' (their statements: YtfojdodeokdanaaTotals.lean).
  GIVEN WITH THE SEED: the statements are not yours to turn. If you find one false, say at which input.
  Laid BY PROGRAM, IN A SANDBOX (cutbox-rows.mjs): the forced cells as the released guide's own fill.sh prints them over the translation 16499cec3e5a1746… (all of the seat's roots in one cut). By AI agents, Wed Nov 11 2026. No macro, syntax, notation, axiom, sorry.
-/
import Derived.Test.YtfojdodeokdanaaChecked
import GoSem.Claim
import GoSem.ClaimJoined
import GoSem.ClaimMapViews
import Derived.JoinedTies
import Derived.KernelRfl
namespace Go.Proofs.Ytfojdodeokdanaa
/- THE CELL 'sum', in the pinned program and in every row, IS THE sha256 OF THE DUMP (.gsa) THAT YtfojdodeokdanaaProg.lean LOADS. Nothing in Lean hashes anything: it is a label: what it is worth is what the hold of that sum in a sandbox is worth. -/
noncomputable def Try.pinned : Pinned := { name := "ytfojdodeokdanaa", sum := "16499cec3e5a1746dd7d991b44c7e67e2cba182964023ef7151a1fc4ca7ce58a", checked := Try.checked }
namespace Rows
def none {H : Type} : Left H := { results := [], args := [] }

/-- 'samaritanlaw31.ResponseplanSatisfies': WHATEVER THE INPUT: true; the input reads as it did. -/
def responseplanSatisfiesSpec : ChangeSpec := { name := "responseplanSatisfies", fn := fun _ => fun
  | [d1, d2] => { results := [.lit (.bool true)], args := [d1, d2] }
  | _ => none }
def responseplanSatisfiesRow : OpenClaim := { program := "ytfojdodeokdanaa", sum := "16499cec3e5a1746dd7d991b44c7e67e2cba182964023ef7151a1fc4ca7ce58a", func := "samaritan/samaritanlaw31.ResponseplanSatisfies", spec := "responseplanSatisfies", plainKeys := false, apart := false }
def ResponseplanSatisfiesSaid : Prop := responseplanSatisfiesRow.holds Try.pinned (OpenSpec.ofChange responseplanSatisfiesSpec)

/-- ITS FALSE NEIGHBOUR: 'it returns false'. Refute it at one input. -/
def responseplanSatisfiesWrong : ChangeSpec := { name := "responseplanSatisfies", fn := fun _ => fun
  | [d1, d2] => { results := [.lit (.bool false)], args := [d1, d2] }
  | _ => none }
def ResponseplanSatisfiesWrongFalsely : Prop := responseplanSatisfiesRow.holds Try.pinned (OpenSpec.ofChange responseplanSatisfiesWrong)

/-- 'samaritanlaw31.ResponseplanUnmet': WHATEVER THE INPUT: true; the input reads as it did. -/
def responseplanUnmetSpec : ChangeSpec := { name := "responseplanUnmet", fn := fun _ => fun
  | [d1, d2] => { results := [.lit (.bool true)], args := [d1, d2] }
  | _ => none }
def responseplanUnmetRow : OpenClaim := { program := "ytfojdodeokdanaa", sum := "16499cec3e5a1746dd7d991b44c7e67e2cba182964023ef7151a1fc4ca7ce58a", func := "samaritan/samaritanlaw31.ResponseplanUnmet", spec := "responseplanUnmet", plainKeys := false, apart := false }
def ResponseplanUnmetSaid : Prop := responseplanUnmetRow.holds Try.pinned (OpenSpec.ofChange responseplanUnmetSpec)

/-- ITS FALSE NEIGHBOUR: 'it returns false'. Refute it at one input. -/
def responseplanUnmetWrong : ChangeSpec := { name := "responseplanUnmet", fn := fun _ => fun
  | [d1, d2] => { results := [.lit (.bool false)], args := [d1, d2] }
  | _ => none }
def ResponseplanUnmetWrongFalsely : Prop := responseplanUnmetRow.holds Try.pinned (OpenSpec.ofChange responseplanUnmetWrong)

/-- 'samaritanlaw31.ResponseplanOptimal': WHATEVER THE INPUT: true; the input reads as it did. -/
def responseplanOptimalSpec : ChangeSpec := { name := "responseplanOptimal", fn := fun _ => fun
  | [d1, d2, d3] => { results := [.lit (.bool true)], args := [d1, d2, d3] }
  | _ => none }
def responseplanOptimalRow : OpenClaim := { program := "ytfojdodeokdanaa", sum := "16499cec3e5a1746dd7d991b44c7e67e2cba182964023ef7151a1fc4ca7ce58a", func := "samaritan/samaritanlaw31.ResponseplanOptimal", spec := "responseplanOptimal", recurses := true, plainKeys := false, apart := false }
def ResponseplanOptimalSaid : Prop := responseplanOptimalRow.holds Try.pinned (OpenSpec.ofChange responseplanOptimalSpec)

/-- ITS FALSE NEIGHBOUR: 'it returns false'. Refute it at one input. -/
def responseplanOptimalWrong : ChangeSpec := { name := "responseplanOptimal", fn := fun _ => fun
  | [d1, d2, d3] => { results := [.lit (.bool false)], args := [d1, d2, d3] }
  | _ => none }
def ResponseplanOptimalWrongFalsely : Prop := responseplanOptimalRow.holds Try.pinned (OpenSpec.ofChange responseplanOptimalWrong)

/-- 'samaritanlaw31.ResponseplanUnitOrder': WHATEVER THE INPUT: true; the input reads as it did. -/
def responseplanUnitOrderSpec : ChangeSpec := { name := "responseplanUnitOrder", fn := fun _ => fun
  | [d1, d2] => { results := [.lit (.bool true)], args := [d1, d2] }
  | _ => none }
def responseplanUnitOrderRow : OpenClaim := { program := "ytfojdodeokdanaa", sum := "16499cec3e5a1746dd7d991b44c7e67e2cba182964023ef7151a1fc4ca7ce58a", func := "samaritan/samaritanlaw31.ResponseplanUnitOrder", spec := "responseplanUnitOrder", plainKeys := false, apart := false }
def ResponseplanUnitOrderSaid : Prop := responseplanUnitOrderRow.holds Try.pinned (OpenSpec.ofChange responseplanUnitOrderSpec)

/-- ITS FALSE NEIGHBOUR: 'it returns false'. Refute it at one input. -/
def responseplanUnitOrderWrong : ChangeSpec := { name := "responseplanUnitOrder", fn := fun _ => fun
  | [d1, d2] => { results := [.lit (.bool false)], args := [d1, d2] }
  | _ => none }
def ResponseplanUnitOrderWrongFalsely : Prop := responseplanUnitOrderRow.holds Try.pinned (OpenSpec.ofChange responseplanUnitOrderWrong)

/-- 'samaritanlaw31.ResponseplanKinds': WHATEVER THE INPUT: true; the input reads as it did. -/
def responseplanKindsSpec : ChangeSpec := { name := "responseplanKinds", fn := fun _ => fun
  | [d1, d2, d3] => { results := [.lit (.bool true)], args := [d1, d2, d3] }
  | _ => none }
def responseplanKindsRow : OpenClaim := { program := "ytfojdodeokdanaa", sum := "16499cec3e5a1746dd7d991b44c7e67e2cba182964023ef7151a1fc4ca7ce58a", func := "samaritan/samaritanlaw31.ResponseplanKinds", spec := "responseplanKinds", unfollowed := true, recurses := true, plainKeys := false, apart := false }
def ResponseplanKindsSaid : Prop := responseplanKindsRow.holds Try.pinned (OpenSpec.ofChange responseplanKindsSpec)

/-- ITS FALSE NEIGHBOUR: 'it returns false'. Refute it at one input. -/
def responseplanKindsWrong : ChangeSpec := { name := "responseplanKinds", fn := fun _ => fun
  | [d1, d2, d3] => { results := [.lit (.bool false)], args := [d1, d2, d3] }
  | _ => none }
def ResponseplanKindsWrongFalsely : Prop := responseplanKindsRow.holds Try.pinned (OpenSpec.ofChange responseplanKindsWrong)

/-- 'samaritanlaw31.ResponseplanFirstInvalid': WHATEVER THE INPUT: true; the input reads as it did. -/
def responseplanFirstInvalidSpec : ChangeSpec := { name := "responseplanFirstInvalid", fn := fun _ => fun
  | [d] => { results := [.lit (.bool true)], args := [d] }
  | _ => none }
def responseplanFirstInvalidRow : OpenClaim := { program := "ytfojdodeokdanaa", sum := "16499cec3e5a1746dd7d991b44c7e67e2cba182964023ef7151a1fc4ca7ce58a", func := "samaritan/samaritanlaw31.ResponseplanFirstInvalid", spec := "responseplanFirstInvalid", plainKeys := false, apart := false }
def ResponseplanFirstInvalidSaid : Prop := responseplanFirstInvalidRow.holds Try.pinned (OpenSpec.ofChange responseplanFirstInvalidSpec)

/-- ITS FALSE NEIGHBOUR: 'it returns false'. Refute it at one input. -/
def responseplanFirstInvalidWrong : ChangeSpec := { name := "responseplanFirstInvalid", fn := fun _ => fun
  | [d] => { results := [.lit (.bool false)], args := [d] }
  | _ => none }
def ResponseplanFirstInvalidWrongFalsely : Prop := responseplanFirstInvalidRow.holds Try.pinned (OpenSpec.ofChange responseplanFirstInvalidWrong)

/- THE SECOND FORM. 'bulk': how many values and letters a reading holds, each counted each time it is reached (what is shared counts as often as it is met; a slice's spare places count too). A statement '..UptoSaid' is the law's where the arguments, and the package variables that the reading takes, are together of bulk at most 1048576: NARROWER than '..Said'. Prove '..Said' where nothing that the law and all that it calls make is longer than what came in: it says more and counts as full. Else prove '..UptoSaid'. A law counts once. -/
mutual
def uptoBulk {H : Type} : DataW H → Nat
  | .lit (.string bytes) => bytes.length + 1
  | .lit _ => 1
  | .nil => 1
  | .ptr d => uptoBulk d + 1
  | .slice elems spare => uptoBulkAll elems + uptoBulkAll spare + 1
  | .agg parts => uptoBulkAll parts + 1
  | .iface _ d => uptoBulk d + 1
  | .map entries => uptoBulkEntries entries + 1
  | .held _ => 1
def uptoBulkAll {H : Type} : List (DataW H) → Nat
  | [] => 0
  | d :: r => uptoBulk d + uptoBulkAll r
def uptoBulkEntries {H : Type} : List (Lit × DataW H) → Nat
  | [] => 0
  | x :: r => uptoBulkEntry x + uptoBulkEntries r
def uptoBulkEntry {H : Type} : Lit × DataW H → Nat
  | (.string bytes, d) => bytes.length + uptoBulk d + 1
  | (_, d) => uptoBulk d + 1
 end
def uptoSmall : (H : Type) → List (DataW H) → Bool := fun _ ds => decide (uptoBulkAll ds ≤ 1048576)
def OpenSpec.upto (s : _root_.Go.ChangeSpec) : _root_.Go.OpenSpec := { _root_.Go.OpenSpec.ofChange s with cond := some uptoSmall }

/-- 'samaritanlaw31.ResponseplanSatisfies', WHERE WHAT IT READS IS OF BULK AT MOST 1048576: true; the input reads as it did. -/
def responseplanSatisfiesUptoRow : OpenClaim := { program := "ytfojdodeokdanaa", sum := "16499cec3e5a1746dd7d991b44c7e67e2cba182964023ef7151a1fc4ca7ce58a", func := "samaritan/samaritanlaw31.ResponseplanSatisfies", spec := "responseplanSatisfies", plainKeys := false, apart := false, narrowed := true }
def ResponseplanSatisfiesUptoSaid : Prop := responseplanSatisfiesUptoRow.holds Try.pinned (OpenSpec.upto responseplanSatisfiesSpec)

/-- 'samaritanlaw31.ResponseplanUnmet', WHERE WHAT IT READS IS OF BULK AT MOST 1048576: true; the input reads as it did. -/
def responseplanUnmetUptoRow : OpenClaim := { program := "ytfojdodeokdanaa", sum := "16499cec3e5a1746dd7d991b44c7e67e2cba182964023ef7151a1fc4ca7ce58a", func := "samaritan/samaritanlaw31.ResponseplanUnmet", spec := "responseplanUnmet", plainKeys := false, apart := false, narrowed := true }
def ResponseplanUnmetUptoSaid : Prop := responseplanUnmetUptoRow.holds Try.pinned (OpenSpec.upto responseplanUnmetSpec)

/-- 'samaritanlaw31.ResponseplanOptimal', WHERE WHAT IT READS IS OF BULK AT MOST 1048576: true; the input reads as it did. -/
def responseplanOptimalUptoRow : OpenClaim := { program := "ytfojdodeokdanaa", sum := "16499cec3e5a1746dd7d991b44c7e67e2cba182964023ef7151a1fc4ca7ce58a", func := "samaritan/samaritanlaw31.ResponseplanOptimal", spec := "responseplanOptimal", recurses := true, plainKeys := false, apart := false, narrowed := true }
def ResponseplanOptimalUptoSaid : Prop := responseplanOptimalUptoRow.holds Try.pinned (OpenSpec.upto responseplanOptimalSpec)

/-- 'samaritanlaw31.ResponseplanUnitOrder', WHERE WHAT IT READS IS OF BULK AT MOST 1048576: true; the input reads as it did. -/
def responseplanUnitOrderUptoRow : OpenClaim := { program := "ytfojdodeokdanaa", sum := "16499cec3e5a1746dd7d991b44c7e67e2cba182964023ef7151a1fc4ca7ce58a", func := "samaritan/samaritanlaw31.ResponseplanUnitOrder", spec := "responseplanUnitOrder", plainKeys := false, apart := false, narrowed := true }
def ResponseplanUnitOrderUptoSaid : Prop := responseplanUnitOrderUptoRow.holds Try.pinned (OpenSpec.upto responseplanUnitOrderSpec)

/-- 'samaritanlaw31.ResponseplanKinds', WHERE WHAT IT READS IS OF BULK AT MOST 1048576: true; the input reads as it did. -/
def responseplanKindsUptoRow : OpenClaim := { program := "ytfojdodeokdanaa", sum := "16499cec3e5a1746dd7d991b44c7e67e2cba182964023ef7151a1fc4ca7ce58a", func := "samaritan/samaritanlaw31.ResponseplanKinds", spec := "responseplanKinds", unfollowed := true, recurses := true, plainKeys := false, apart := false, narrowed := true }
def ResponseplanKindsUptoSaid : Prop := responseplanKindsUptoRow.holds Try.pinned (OpenSpec.upto responseplanKindsSpec)

/-- 'samaritanlaw31.ResponseplanFirstInvalid', WHERE WHAT IT READS IS OF BULK AT MOST 1048576: true; the input reads as it did. -/
def responseplanFirstInvalidUptoRow : OpenClaim := { program := "ytfojdodeokdanaa", sum := "16499cec3e5a1746dd7d991b44c7e67e2cba182964023ef7151a1fc4ca7ce58a", func := "samaritan/samaritanlaw31.ResponseplanFirstInvalid", spec := "responseplanFirstInvalid", plainKeys := false, apart := false, narrowed := true }
def ResponseplanFirstInvalidUptoSaid : Prop := responseplanFirstInvalidUptoRow.holds Try.pinned (OpenSpec.upto responseplanFirstInvalidSpec)

end Rows
end Go.Proofs.Ytfojdodeokdanaa
