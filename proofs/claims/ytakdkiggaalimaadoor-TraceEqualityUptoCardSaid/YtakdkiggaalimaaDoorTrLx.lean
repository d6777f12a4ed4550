/-
  What the row's list gives: the world is ready for the library's contracts.
-/
import Derived.Test.YtakdkiggaalimaaDoorTrB
import Derived.Test.YtakdkiggaalimaaDoorRows
import Derived.Stop.LaidErr
import Derived.MakeChecks
import Derived.Lay
import Derived.ProofKit
import Derived.OpenShut
import Derived.Deep.DeepWitnessRowRef
namespace Go.Proofs.YtakdkiggaalimaaDoor
open Go.ChangeShapes Go.WideShapes Go.ChangeAt Go.RowKit

theorem own : ownKnob Tryd.prog.godebug = none := by kernel_rfl
theorem laidOut : laidOutB Tryd.prog = true := by kernel_rfl
theorem starred : "*" ++ "errors.errorString" = "*errors.errorString" := by decide
/-- the one type of that name. -/
theorem err_row (u : TypeId) (h : Tryd.prog.typeName? 3 u = some "*errors.errorString") : u = 147 :=
  typeName_ptr_named (nm := "errors.errorString") (by rw [starred]; kernel_rfl) (by kernel_rfl) (by decide) u (by rw [starred]; exact h)

theorem room_of {W : World} (h : W.ShapedOpen Tryd.prog) : Tryd.prog.globals.size ≤ W.heap.size := by
  obtain ⟨o, o₀, h1, _⟩ := h.2 Tryd.prog.globals.size (Nat.le_refl _) (of_decide_eq_true (by kernel_rfl))
  exact Nat.le_of_lt (Array.getElem?_eq_some_iff.1 h1).1

theorem ready_of {W : World} {r1 r2 r3 : List (String × DataW Unit)}
    (h1 : laidMet Tryd.prog (("internal/strconv.uint64pow10", Lib.tabData .u64 Lib.pow10Tab) :: r1) W)
    (h2 : laidMet Tryd.prog (("strconv.ErrSyntax", Rows.laid_strconv_ErrSyntax) :: r2) W)
    (h3 : laidMet Tryd.prog (("strconv.ErrRange", Rows.laid_strconv_ErrRange) :: r3) W)
    (hS : W.ShapedOpen Tryd.prog) : Ready W := by
  refine ⟨?_, ?_, ?_, ?_, room_of hS⟩
  · exact Lib.tabIs_of_head g_tab (by kernel_rfl) Tryd.underlying130 Tryd.underlying116 (by kernel_rfl) (by kernel_rfl) h1
  · obtain ⟨x, t, hv, _⟩ := laid_sentinel (g := 4) h2 (by kernel_rfl) (by kernel_rfl) Tryd.underlying57 err_row Tryd.underlying147 Tryd.underlying149 rfl rfl Tryd.underlying9 (by kernel_rfl) (by kernel_rfl)
    exact ⟨_, _, hv⟩
  · obtain ⟨x, t, hv, _⟩ := laid_sentinel (g := 5) h3 (by kernel_rfl) (by kernel_rfl) Tryd.underlying57 err_row Tryd.underlying147 Tryd.underlying149 rfl rfl Tryd.underlying9 (by kernel_rfl) (by kernel_rfl)
    exact ⟨_, _, hv⟩
  · exact cell_of_shapedOpen_int (zero := #[.int .i64 0]) (t := 3) hS (of_decide_eq_true (by kernel_rfl)) (by kernel_rfl) rfl (by kernel_rfl) (by kernel_rfl) Tryd.underlying3

/-- the list that the rows of this seat share. -/
noncomputable abbrev laidList : List (String × DataW Unit) := Rows.traceEqualityRow.laid
theorem laid_fits (os : Os) : (World.holding Tryd.prog os ⟨#[], #[], []⟩).layFits Tryd.prog laidList [] = true := by kernel_rfl
theorem laid_ifaces (os : Os) : (World.holding Tryd.prog os ⟨#[], #[], []⟩).layIfaces Tryd.prog laidList (World.laidAll Tryd.prog os laidList) = true := by kernel_rfl
theorem laid_vars (os : Os) (args : Array Value) : ((World.laidAll Tryd.prog os laidList).forCall (fun _ _ => 0) ⟨#[], args, []⟩).variablesRefB Tryd.prog = true := by kernel_rfl
theorem laid_rest (os : Os) (args : Array Value) : (((World.laidAll Tryd.prog os laidList).forCall (fun _ _ => 0) ⟨#[], args, []⟩).heap.toList.drop Tryd.prog.globals.size).take ((begin Tryd.prog (fun _ _ => 0) default).world.heap.size - Tryd.prog.globals.size) =
    (begin Tryd.prog (fun _ _ => 0) default).world.heap.toList.drop Tryd.prog.globals.size := by kernel_rfl
section
variable {H : Type}
theorem bulk_only {d0 : DataW H} {gs : List (DataW H)} (h : Rows.uptoSmall H ([d0] ++ gs) = true) : Rows.uptoBulk d0 ≤ 1048576 := by
  have h1 : Rows.uptoBulkAll ([d0] ++ gs) ≤ 1048576 := of_decide_eq_true h
  simp only [List.cons_append, Rows.uptoBulkAll] at h1
  omega
theorem bulk_two {d0 d1 : DataW H} {gs : List (DataW H)} (h : Rows.uptoSmall H ([d0, d1] ++ gs) = true) : Rows.uptoBulk d0 ≤ 1048576 ∧ Rows.uptoBulk d1 ≤ 1048576 := by
  have h1 : Rows.uptoBulkAll ([d0, d1] ++ gs) ≤ 1048576 := of_decide_eq_true h
  simp only [List.cons_append, Rows.uptoBulkAll] at h1
  omega
end
end Go.Proofs.YtakdkiggaalimaaDoor
