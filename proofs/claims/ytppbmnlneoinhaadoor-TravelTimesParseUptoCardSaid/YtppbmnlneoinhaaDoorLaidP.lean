/-
  What the row's list gives besides: the world is ready for the contracts that read numbers.
-/
import Derived.Test.YtppbmnlneoinhaaDoorLaidV
import Derived.Test.YtppbmnlneoinhaaDoorReadyP
namespace Go.Proofs.YtppbmnlneoinhaaDoor
open Go.ChangeShapes Go.WideShapes Go.ChangeAt Go.RowKit

theorem starred : "*" ++ "errors.errorString" = "*errors.errorString" := by decide
/-- the one type of that name. -/
theorem err_row (u : TypeId) (h : Tryd.prog.typeName? 3 u = some "*errors.errorString") : u = 147 :=
  typeName_ptr_named (nm := "errors.errorString") (by rw [starred]; kernel_rfl) (by kernel_rfl) (by decide) u (by rw [starred]; exact h)
theorem readyP_of {W : World} {r1 r2 r3 : List (String × DataW Unit)}
    (h1 : laidMet Tryd.prog (("internal/strconv.uint64pow10", Lib.tabData .u64 Lib.pow10Tab) :: r1) W)
    (h2 : laidMet Tryd.prog (("strconv.ErrSyntax", Rows.laid_strconv_ErrSyntax) :: r2) W)
    (h3 : laidMet Tryd.prog (("strconv.ErrRange", Rows.laid_strconv_ErrRange) :: r3) W)
    (hS : W.ShapedOpen Tryd.prog) : ReadyP W := by
  refine ⟨ready_of h1 hS, ?_, ?_, ?_⟩
  · obtain ⟨x, t, hv, _⟩ := laid_sentinel (g := 4) h2 (by kernel_rfl) (by kernel_rfl) Tryd.underlying69 err_row Tryd.underlying147 Tryd.underlying149 rfl rfl Tryd.underlying9 (by kernel_rfl) (by kernel_rfl)
    exact ⟨_, _, hv⟩
  · obtain ⟨x, t, hv, _⟩ := laid_sentinel (g := 5) h3 (by kernel_rfl) (by kernel_rfl) Tryd.underlying69 err_row Tryd.underlying147 Tryd.underlying149 rfl rfl Tryd.underlying9 (by kernel_rfl) (by kernel_rfl)
    exact ⟨_, _, hv⟩
  · exact Tryd.laysM143.s1_3 W hS
theorem bulk_two {H : Type} {d0 d1 : DataW H} {gs : List (DataW H)} (h : Rows.uptoSmall H ([d0, d1] ++ gs) = true) : Rows.uptoBulk d0 ≤ 1048576 ∧ Rows.uptoBulk d1 ≤ 1048576 := by
  have h1 : Rows.uptoBulkAll ([d0, d1] ++ gs) ≤ 1048576 := of_decide_eq_true h
  simp only [List.cons_append, Rows.uptoBulkAll] at h1
  omega
end Go.Proofs.YtppbmnlneoinhaaDoor
