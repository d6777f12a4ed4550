/-
  What the row's list gives: the world is ready for the library's contracts.
-/
import Derived.Test.YtakdkiggaalimaaGreatDoorTrB
import Derived.Test.YtakdkiggaalimaaGreatDoorRows
import Derived.Stop.LaidErr
import Derived.MakeChecks
import Derived.Lay
import Derived.ProofKit
import Derived.OpenShut
import Derived.Deep.DeepWitnessRowRef
namespace Go.Proofs.YtakdkiggaalimaaGreatDoor
open Go.ChangeShapes Go.WideShapes Go.ChangeAt Go.RowKit

theorem own : ownKnob Tryz.prog.godebug = none := by kernel_rfl
theorem laidOut : laidOutB Tryz.prog = true := by kernel_rfl
theorem starred : "*" ++ "errors.errorString" = "*errors.errorString" := by decide
/-- the one type of that name. -/
theorem err_row (u : TypeId) (h : Tryz.prog.typeName? 3 u = some "*errors.errorString") : u = 164 :=
  typeName_ptr_named (nm := "errors.errorString") (by rw [starred]; kernel_rfl) (by kernel_rfl) (by decide) u (by rw [starred]; exact h)

theorem room_of {W : World} (h : W.ShapedOpen Tryz.prog) : Tryz.prog.globals.size ≤ W.heap.size := by
  obtain ⟨o, o₀, h1, _⟩ := h.2 Tryz.prog.globals.size (Nat.le_refl _) (of_decide_eq_true (by kernel_rfl))
  exact Nat.le_of_lt (Array.getElem?_eq_some_iff.1 h1).1

theorem ready_of {W : World} {r1 r2 r3 : List (String × DataW Unit)}
    (h1 : laidMet Tryz.prog (("internal/strconv.uint64pow10", Lib.tabData .u64 Lib.pow10Tab) :: r1) W)
    (h2 : laidMet Tryz.prog (("strconv.ErrSyntax", Rows.laid_strconv_ErrSyntax) :: r2) W)
    (h3 : laidMet Tryz.prog (("strconv.ErrRange", Rows.laid_strconv_ErrRange) :: r3) W)
    (hS : W.ShapedOpen Tryz.prog) : Ready W := by
  refine ⟨?_, ?_, ?_, ?_, room_of hS⟩
  · exact Lib.tabIs_of_head g_tab (by kernel_rfl) Tryz.underlying160 Tryz.underlying137 (by kernel_rfl) (by kernel_rfl) h1
  · obtain ⟨x, t, hv, _⟩ := laid_sentinel (g := 3) h2 (by kernel_rfl) (by kernel_rfl) Tryz.underlying88 err_row Tryz.underlying164 Tryz.underlying166 rfl rfl Tryz.underlying9 (by kernel_rfl) (by kernel_rfl)
    exact ⟨_, _, hv⟩
  · obtain ⟨x, t, hv, _⟩ := laid_sentinel (g := 4) h3 (by kernel_rfl) (by kernel_rfl) Tryz.underlying88 err_row Tryz.underlying164 Tryz.underlying166 rfl rfl Tryz.underlying9 (by kernel_rfl) (by kernel_rfl)
    exact ⟨_, _, hv⟩
  · exact cell_of_shapedOpen_int (zero := #[.int .i64 0]) (t := 3) hS (of_decide_eq_true (by kernel_rfl)) (by kernel_rfl) rfl (by kernel_rfl) (by kernel_rfl) Tryz.underlying3

/-- the list that the rows of this seat share. -/
noncomputable abbrev laidList : List (String × DataW Unit) := Rows.traceEventParsingRow.laid
theorem laid_fits (os : Os) : (World.holding Tryz.prog os ⟨#[], #[], []⟩).layFits Tryz.prog laidList [] = true := by kernel_rfl
theorem laid_ifaces (os : Os) : (World.holding Tryz.prog os ⟨#[], #[], []⟩).layIfaces Tryz.prog laidList (World.laidAll Tryz.prog os laidList) = true := by kernel_rfl
theorem laid_vars (os : Os) (args : Array Value) : ((World.laidAll Tryz.prog os laidList).forCall (fun _ _ => 0) ⟨#[], args, []⟩).variablesRefB Tryz.prog = true := by kernel_rfl
theorem laid_rest (os : Os) (args : Array Value) : (((World.laidAll Tryz.prog os laidList).forCall (fun _ _ => 0) ⟨#[], args, []⟩).heap.toList.drop Tryz.prog.globals.size).take ((begin Tryz.prog (fun _ _ => 0) default).world.heap.size - Tryz.prog.globals.size) =
    (begin Tryz.prog (fun _ _ => 0) default).world.heap.toList.drop Tryz.prog.globals.size := by kernel_rfl
end Go.Proofs.YtakdkiggaalimaaGreatDoor
