/-
  No cell of these rows narrows 'for every input' (looked for: loops, veiled, ifaces, maps, wideKeys, modest, calm, conditions, laid).
  DERIVED. THE GIVEN ROWS OF THIS SEAT. 7 by the template 'for every input the law returns true; each argument reads behind the call as it read before'; 0 by the template 'total and deterministic' (their statements: YtpomakmmjbimfaaTotals.lean).
  GIVEN WITH THE SEED: the statements are not yours to turn. If you find one false, say at which input.
  Laid BY PROGRAM, IN A SANDBOX (cutbox-rows.mjs): the forced cells as the released guide's own fill.sh prints them over the translation d929f951120c373b… (all of the seat's roots in one cut). By AI agents, Wed Nov 11 2026. No macro, syntax, notation, axiom, sorry.
-/
import Derived.Test.YtpomakmmjbimfaaChecked
import GoSem.Claim
import GoSem.ClaimJoined
import GoSem.ClaimMapViews
import Derived.JoinedTies
import Derived.KernelRfl
namespace Go.Proofs.Ytpomakmmjbimfaa
/- THE CELL 'sum', in the pinned program and in every row, IS THE sha256 OF THE DUMP (.gsa) THAT YtpomakmmjbimfaaProg.lean LOADS. Nothing in Lean hashes anything: it is a label: what it is worth is what the hold of that sum in a sandbox is worth. -/
noncomputable def Try.pinned : Pinned := { name := "ytpomakmmjbimfaa", sum := "d929f951120c373b362beb90da412436cffef8d989beaa5e41ccd2685ce1a4a6", checked := Try.checked }
namespace Rows
def none {H : Type} : Left H := { results := [], args := [] }

/-- 'samaritanlaw35.DispatchcostTravelTime': WHATEVER THE INPUT: true; the input reads as it did. -/
def dispatchcostTravelTimeSpec : ChangeSpec := { name := "dispatchcostTravelTime", fn := fun _ => fun
  | [d1, d2, d3] => { results := [.lit (.bool true)], args := [d1, d2, d3] }
  | _ => none }
def dispatchcostTravelTimeRow : OpenClaim := { program := "ytpomakmmjbimfaa", sum := "d929f951120c373b362beb90da412436cffef8d989beaa5e41ccd2685ce1a4a6", func := "samaritan/samaritanlaw35.DispatchcostTravelTime", spec := "dispatchcostTravelTime", unfollowed := true, recurses := true, apart := false }
def DispatchcostTravelTimeSaid : Prop := dispatchcostTravelTimeRow.holds Try.pinned (OpenSpec.ofChange dispatchcostTravelTimeSpec)

/-- ITS FALSE NEIGHBOUR: 'it returns false'. Refute it at one input. -/
def dispatchcostTravelTimeWrong : ChangeSpec := { name := "dispatchcostTravelTime", fn := fun _ => fun
  | [d1, d2, d3] => { results := [.lit (.bool false)], args := [d1, d2, d3] }
  | _ => none }
def DispatchcostTravelTimeWrongFalsely : Prop := dispatchcostTravelTimeRow.holds Try.pinned (OpenSpec.ofChange dispatchcostTravelTimeWrong)

/-- 'samaritanlaw35.DispatchcostDispatchable': WHATEVER THE INPUT: true; the input reads as it did. -/
def dispatchcostDispatchableSpec : ChangeSpec := { name := "dispatchcostDispatchable", fn := fun _ => fun
  | [d1, d2, d3] => { results := [.lit (.bool true)], args := [d1, d2, d3] }
  | _ => none }
def dispatchcostDispatchableRow : OpenClaim := { program := "ytpomakmmjbimfaa", sum := "d929f951120c373b362beb90da412436cffef8d989beaa5e41ccd2685ce1a4a6", func := "samaritan/samaritanlaw35.DispatchcostDispatchable", spec := "dispatchcostDispatchable", unfollowed := true, recurses := true, apart := false }
def DispatchcostDispatchableSaid : Prop := dispatchcostDispatchableRow.holds Try.pinned (OpenSpec.ofChange dispatchcostDispatchableSpec)

/-- ITS FALSE NEIGHBOUR: 'it returns false'. Refute it at one input. -/
def dispatchcostDispatchableWrong : ChangeSpec := { name := "dispatchcostDispatchable", fn := fun _ => fun
  | [d1, d2, d3] => { results := [.lit (.bool false)], args := [d1, d2, d3] }
  | _ => none }
def DispatchcostDispatchableWrongFalsely : Prop := dispatchcostDispatchableRow.holds Try.pinned (OpenSpec.ofChange dispatchcostDispatchableWrong)

/-- 'samaritanlaw35.DispatchcostMatrix': WHATEVER THE INPUT: true; the input reads as it did. -/
def dispatchcostMatrixSpec : ChangeSpec := { name := "dispatchcostMatrix", fn := fun _ => fun
  | [d1, d2] => { results := [.lit (.bool true)], args := [d1, d2] }
  | _ => none }
def dispatchcostMatrixRow : OpenClaim := { program := "ytpomakmmjbimfaa", sum := "d929f951120c373b362beb90da412436cffef8d989beaa5e41ccd2685ce1a4a6", func := "samaritan/samaritanlaw35.DispatchcostMatrix", spec := "dispatchcostMatrix", unfollowed := true, recurses := true, apart := false }
def DispatchcostMatrixSaid : Prop := dispatchcostMatrixRow.holds Try.pinned (OpenSpec.ofChange dispatchcostMatrixSpec)

/-- ITS FALSE NEIGHBOUR: 'it returns false'. Refute it at one input. -/
def dispatchcostMatrixWrong : ChangeSpec := { name := "dispatchcostMatrix", fn := fun _ => fun
  | [d1, d2] => { results := [.lit (.bool false)], args := [d1, d2] }
  | _ => none }
def DispatchcostMatrixWrongFalsely : Prop := dispatchcostMatrixRow.holds Try.pinned (OpenSpec.ofChange dispatchcostMatrixWrong)

/-- 'samaritanlaw35.DispatchcostSlots': WHATEVER THE INPUT: true; the input reads as it did. -/
def dispatchcostSlotsSpec : ChangeSpec := { name := "dispatchcostSlots", fn := fun _ => fun
  | [d1, d2, d3] => { results := [.lit (.bool true)], args := [d1, d2, d3] }
  | _ => none }
def dispatchcostSlotsRow : OpenClaim := { program := "ytpomakmmjbimfaa", sum := "d929f951120c373b362beb90da412436cffef8d989beaa5e41ccd2685ce1a4a6", func := "samaritan/samaritanlaw35.DispatchcostSlots", spec := "dispatchcostSlots", unfollowed := true, recurses := true, apart := false }
def DispatchcostSlotsSaid : Prop := dispatchcostSlotsRow.holds Try.pinned (OpenSpec.ofChange dispatchcostSlotsSpec)

/-- ITS FALSE NEIGHBOUR: 'it returns false'. Refute it at one input. -/
def dispatchcostSlotsWrong : ChangeSpec := { name := "dispatchcostSlots", fn := fun _ => fun
  | [d1, d2, d3] => { results := [.lit (.bool false)], args := [d1, d2, d3] }
  | _ => none }
def DispatchcostSlotsWrongFalsely : Prop := dispatchcostSlotsRow.holds Try.pinned (OpenSpec.ofChange dispatchcostSlotsWrong)

/-- 'samaritanlaw35.DispatchcostAssignedUnits': WHATEVER THE INPUT: true; the input reads as it did. -/
def dispatchcostAssignedUnitsSpec : ChangeSpec := { name := "dispatchcostAssignedUnits", fn := fun _ => fun
  | [d1, d2, d3] => { results := [.lit (.bool true)], args := [d1, d2, d3] }
  | _ => none }
def dispatchcostAssignedUnitsRow : OpenClaim := { program := "ytpomakmmjbimfaa", sum := "d929f951120c373b362beb90da412436cffef8d989beaa5e41ccd2685ce1a4a6", func := "samaritan/samaritanlaw35.DispatchcostAssignedUnits", spec := "dispatchcostAssignedUnits", unfollowed := true, recurses := true, apart := false }
def DispatchcostAssignedUnitsSaid : Prop := dispatchcostAssignedUnitsRow.holds Try.pinned (OpenSpec.ofChange dispatchcostAssignedUnitsSpec)

/-- ITS FALSE NEIGHBOUR: 'it returns false'. Refute it at one input. -/
def dispatchcostAssignedUnitsWrong : ChangeSpec := { name := "dispatchcostAssignedUnits", fn := fun _ => fun
  | [d1, d2, d3] => { results := [.lit (.bool false)], args := [d1, d2, d3] }
  | _ => none }
def DispatchcostAssignedUnitsWrongFalsely : Prop := dispatchcostAssignedUnitsRow.holds Try.pinned (OpenSpec.ofChange dispatchcostAssignedUnitsWrong)

/-- 'samaritanlaw35.DispatchcostSlotOrder': WHATEVER THE INPUT: true; the input reads as it did. -/
def dispatchcostSlotOrderSpec : ChangeSpec := { name := "dispatchcostSlotOrder", fn := fun _ => fun
  | [d1, d2, d3] => { results := [.lit (.bool true)], args := [d1, d2, d3] }
  | _ => none }
def dispatchcostSlotOrderRow : OpenClaim := { program := "ytpomakmmjbimfaa", sum := "d929f951120c373b362beb90da412436cffef8d989beaa5e41ccd2685ce1a4a6", func := "samaritan/samaritanlaw35.DispatchcostSlotOrder", spec := "dispatchcostSlotOrder", unfollowed := true, recurses := true, apart := false }
def DispatchcostSlotOrderSaid : Prop := dispatchcostSlotOrderRow.holds Try.pinned (OpenSpec.ofChange dispatchcostSlotOrderSpec)

/-- ITS FALSE NEIGHBOUR: 'it returns false'. Refute it at one input. -/
def dispatchcostSlotOrderWrong : ChangeSpec := { name := "dispatchcostSlotOrder", fn := fun _ => fun
  | [d1, d2, d3] => { results := [.lit (.bool false)], args := [d1, d2, d3] }
  | _ => none }
def DispatchcostSlotOrderWrongFalsely : Prop := dispatchcostSlotOrderRow.holds Try.pinned (OpenSpec.ofChange dispatchcostSlotOrderWrong)

/-- 'samaritanlaw35.DispatchcostNoAliasing': WHATEVER THE INPUT: true; the input reads as it did. -/
def dispatchcostNoAliasingSpec : ChangeSpec := { name := "dispatchcostNoAliasing", fn := fun _ => fun
  | [d] => { results := [.lit (.bool true)], args := [d] }
  | _ => none }
def dispatchcostNoAliasingRow : OpenClaim := { program := "ytpomakmmjbimfaa", sum := "d929f951120c373b362beb90da412436cffef8d989beaa5e41ccd2685ce1a4a6", func := "samaritan/samaritanlaw35.DispatchcostNoAliasing", spec := "dispatchcostNoAliasing", unfollowed := true, recurses := true, apart := false }
def DispatchcostNoAliasingSaid : Prop := dispatchcostNoAliasingRow.holds Try.pinned (OpenSpec.ofChange dispatchcostNoAliasingSpec)

/-- ITS FALSE NEIGHBOUR: 'it returns false'. Refute it at one input. -/
def dispatchcostNoAliasingWrong : ChangeSpec := { name := "dispatchcostNoAliasing", fn := fun _ => fun
  | [d] => { results := [.lit (.bool false)], args := [d] }
  | _ => none }
def DispatchcostNoAliasingWrongFalsely : Prop := dispatchcostNoAliasingRow.holds Try.pinned (OpenSpec.ofChange dispatchcostNoAliasingWrong)

/- THE SECOND FORM. 'bulk': how many values and letters a reading holds, each counted each time it is reached (what is shared counts as often as it is met; a slice's spare places count too). A statement '..UptoSaid' is the law's where the arguments, and the package variables that the reading takes, are together of bulk at most 1048576: NARROWER than '..Said'. Prove '..Said' where nothing that the law and all that it calls make is longer than what came in: it says more and counts as full. Else prove '..UptoSaid'. A law counts once. -/
mutual
def uptoBulk {H : Type} : DataW H → Nat
  | .lit (.string bytes) => bytes.length + 1
  | .lit _ => 1
  | .nil => 1
  | .ptr d => uptoBulk d + 1
  | .slice elems spare => uptoBulkAll elems + uptoBulkAll spare + 1
  | .agg parts => uptoBulkAll parts + 1
  | .iface _ d => uptoBulk d + 1
  | .map entries => uptoBulkEntries entries + 1
  | .held _ => 1
def uptoBulkAll {H : Type} : List (DataW H) → Nat
  | [] => 0
  | d :: r => uptoBulk d + uptoBulkAll r
def uptoBulkEntries {H : Type} : List (Lit × DataW H) → Nat
  | [] => 0
  | x :: r => uptoBulkEntry x + uptoBulkEntries r
def uptoBulkEntry {H : Type} : Lit × DataW H → Nat
  | (.string bytes, d) => bytes.length + uptoBulk d + 1
  | (_, d) => uptoBulk d + 1
 end
def uptoSmall : (H : Type) → List (DataW H) → Bool := fun _ ds => decide (uptoBulkAll ds ≤ 1048576)
def OpenSpec.upto (s : _root_.Go.ChangeSpec) : _root_.Go.OpenSpec := { _root_.Go.OpenSpec.ofChange s with cond := some uptoSmall }

/-- 'samaritanlaw35.DispatchcostTravelTime', WHERE WHAT IT READS IS OF BULK AT MOST 1048576: true; the input reads as it did. -/
def dispatchcostTravelTimeUptoRow : OpenClaim := { program := "ytpomakmmjbimfaa", sum := "d929f951120c373b362beb90da412436cffef8d989beaa5e41ccd2685ce1a4a6", func := "samaritan/samaritanlaw35.DispatchcostTravelTime", spec := "dispatchcostTravelTime", unfollowed := true, recurses := true, apart := false, narrowed := true }
def DispatchcostTravelTimeUptoSaid : Prop := dispatchcostTravelTimeUptoRow.holds Try.pinned (OpenSpec.upto dispatchcostTravelTimeSpec)

/-- 'samaritanlaw35.DispatchcostDispatchable', WHERE WHAT IT READS IS OF BULK AT MOST 1048576: true; the input reads as it did. -/
def dispatchcostDispatchableUptoRow : OpenClaim := { program := "ytpomakmmjbimfaa", sum := "d929f951120c373b362beb90da412436cffef8d989beaa5e41ccd2685ce1a4a6", func := "samaritan/samaritanlaw35.DispatchcostDispatchable", spec := "dispatchcostDispatchable", unfollowed := true, recurses := true, apart := false, narrowed := true }
def DispatchcostDispatchableUptoSaid : Prop := dispatchcostDispatchableUptoRow.holds Try.pinned (OpenSpec.upto dispatchcostDispatchableSpec)

/-- 'samaritanlaw35.DispatchcostMatrix', WHERE WHAT IT READS IS OF BULK AT MOST 1048576: true; the input reads as it did. -/
def dispatchcostMatrixUptoRow : OpenClaim := { program := "ytpomakmmjbimfaa", sum := "d929f951120c373b362beb90da412436cffef8d989beaa5e41ccd2685ce1a4a6", func := "samaritan/samaritanlaw35.DispatchcostMatrix", spec := "dispatchcostMatrix", unfollowed := true, recurses := true, apart := false, narrowed := true }
def DispatchcostMatrixUptoSaid : Prop := dispatchcostMatrixUptoRow.holds Try.pinned (OpenSpec.upto dispatchcostMatrixSpec)

/-- 'samaritanlaw35.DispatchcostSlots', WHERE WHAT IT READS IS OF BULK AT MOST 1048576: true; the input reads as it did. -/
def dispatchcostSlotsUptoRow : OpenClaim := { program := "ytpomakmmjbimfaa", sum := "d929f951120c373b362beb90da412436cffef8d989beaa5e41ccd2685ce1a4a6", func := "samaritan/samaritanlaw35.DispatchcostSlots", spec := "dispatchcostSlots", unfollowed := true, recurses := true, apart := false, narrowed := true }
def DispatchcostSlotsUptoSaid : Prop := dispatchcostSlotsUptoRow.holds Try.pinned (OpenSpec.upto dispatchcostSlotsSpec)

/-- 'samaritanlaw35.DispatchcostAssignedUnits', WHERE WHAT IT READS IS OF BULK AT MOST 1048576: true; the input reads as it did. -/
def dispatchcostAssignedUnitsUptoRow : OpenClaim := { program := "ytpomakmmjbimfaa", sum := "d929f951120c373b362beb90da412436cffef8d989beaa5e41ccd2685ce1a4a6", func := "samaritan/samaritanlaw35.DispatchcostAssignedUnits", spec := "dispatchcostAssignedUnits", unfollowed := true, recurses := true, apart := false, narrowed := true }
def DispatchcostAssignedUnitsUptoSaid : Prop := dispatchcostAssignedUnitsUptoRow.holds Try.pinned (OpenSpec.upto dispatchcostAssignedUnitsSpec)

/-- 'samaritanlaw35.DispatchcostSlotOrder', WHERE WHAT IT READS IS OF BULK AT MOST 1048576: true; the input reads as it did. -/
def dispatchcostSlotOrderUptoRow : OpenClaim := { program := "ytpomakmmjbimfaa", sum := "d929f951120c373b362beb90da412436cffef8d989beaa5e41ccd2685ce1a4a6", func := "samaritan/samaritanlaw35.DispatchcostSlotOrder", spec := "dispatchcostSlotOrder", unfollowed := true, recurses := true, apart := false, narrowed := true }
def DispatchcostSlotOrderUptoSaid : Prop := dispatchcostSlotOrderUptoRow.holds Try.pinned (OpenSpec.upto dispatchcostSlotOrderSpec)

/-- 'samaritanlaw35.DispatchcostNoAliasing', WHERE WHAT IT READS IS OF BULK AT MOST 1048576: true; the input reads as it did. -/
def dispatchcostNoAliasingUptoRow : OpenClaim := { program := "ytpomakmmjbimfaa", sum := "d929f951120c373b362beb90da412436cffef8d989beaa5e41ccd2685ce1a4a6", func := "samaritan/samaritanlaw35.DispatchcostNoAliasing", spec := "dispatchcostNoAliasing", unfollowed := true, recurses := true, apart := false, narrowed := true }
def DispatchcostNoAliasingUptoSaid : Prop := dispatchcostNoAliasingUptoRow.holds Try.pinned (OpenSpec.upto dispatchcostNoAliasingSpec)

end Rows
end Go.Proofs.Ytpomakmmjbimfaa
