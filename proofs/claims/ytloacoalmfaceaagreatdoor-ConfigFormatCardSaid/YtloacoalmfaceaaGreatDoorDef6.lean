/-
  config.Default and the reference's.
-/
import Derived.Test.YtloacoalmfaceaaGreatDoorGreat6
namespace Go.Proofs.YtloacoalmfaceaaGreatDoor
open Go.RowKit

def defPs : List Int := [2, 10, 12, 20, 30, 4, 10, 50, 1, 8]
def defCfg : Cfg := ⟨0, none, [], 0, none, [], 0, none, [], 0, none, [], 0, defPs⟩
set_option maxRecDepth 100000 in
theorem default_any (w : World) : Calls Tryz.prog 16 #[] w fun e w' => e = .returned (.agg defCfg.cells.toArray) ∧ Below w.heap.size w w' := by
  go_enter Tryz.func16, Tryz.ntmps16
  go_wp2_with fail
  exact bodyPost_ret (results_cell_row Tryz.results16 _ _ w.heap.size 27 _ (0, 0) _ (by rfl) (new_obj w _) Tryz.underlying27 rfl (by kernel_rfl)) rfl ⟨rfl, (Below.refl _ _).alloc (Nat.le_refl _) _⟩
set_option maxRecDepth 100000 in
theorem defaultR_any (w : World) : Calls Tryz.prog 19 #[] w fun e w' => e = .returned (.agg defCfg.cells.toArray) ∧ Below w.heap.size w w' := by
  go_enter Tryz.func19, Tryz.ntmps19
  go_wp2_with fail
  exact bodyPost_ret (results_cell_row Tryz.results19 _ _ w.heap.size 27 _ (0, 0) _ (by rfl) (new_obj w _) Tryz.underlying27 rfl (by kernel_rfl)) rfl ⟨rfl, (Below.refl _ _).alloc (Nat.le_refl _) _⟩
end Go.Proofs.YtloacoalmfaceaaGreatDoor
