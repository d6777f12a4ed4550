/-
  samaritanref51: ActWord, EventWord (printed by gentrxd.py).
-/
import Derived.Test.YtakdkiggaalimaaGreatDoorTrXa
namespace Go.Proofs.YtakdkiggaalimaaGreatDoor
open Go.RowKit Go.Maps

set_option maxRecDepth 100000 in
set_option maxHeartbeats 8000000 in
theorem actWord_any (k : Int) (w : World) : Calls Tryz.prog 47 #[.int .i64 k] w fun e w' => e = .returned (.string (bs (actN k))) ∧ Below w.heap.size w w' := by
  by_cases h1 : k < 1
  · have e0 : actN k = [] := tabN_out (.inl h1)
    have d1 : decide (k < 1) = true := decide_eq_true h1
    rw [e0]
    clear h1 e0
    go_enter Tryz.func47, Tryz.ntmps47
    go_wp2_with fail
    go_ret
    exact ⟨rfl, (Below.refl _ _).alloc (Nat.le_refl _) _⟩
  by_cases h2 : 19 < k
  · have e0 : actN k = [] := tabN_out (.inr h2)
    have d1 : decide (k < 1) = false := decide_eq_false h1
    have d2 : decide (20 ≤ k) = true := decide_eq_true (by omega)
    rw [e0]
    clear h1 h2 e0
    go_enter Tryz.func47, Tryz.ntmps47
    go_wp2_with fail
    go_ret
    exact ⟨rfl, (Below.refl _ _).alloc (Nat.le_refl _) _⟩
  have hc : k = 1 ∨ k = 2 ∨ k = 3 ∨ k = 4 ∨ k = 5 ∨ k = 6 ∨ k = 7 ∨ k = 8 ∨ k = 9 ∨ k = 10 ∨ k = 11 ∨ k = 12 ∨ k = 13 ∨ k = 14 ∨ k = 15 ∨ k = 16 ∨ k = 17 ∨ k = 18 ∨ k = 19 := by omega
  clear h1 h2
  rcases hc with rfl | rfl | rfl | rfl | rfl | rfl | rfl | rfl | rfl | rfl | rfl | rfl | rfl | rfl | rfl | rfl | rfl | rfl | rfl
  all_goals
    go_enter Tryz.func47, Tryz.ntmps47
    go_wp2_with fail
    go_ret
    exact ⟨rfl, (Below.refl _ _).alloc (Nat.le_refl _) _⟩
set_option maxRecDepth 100000 in
set_option maxHeartbeats 8000000 in
theorem evWord_any (k : Int) (w : World) : Calls Tryz.prog 33 #[.int .i64 k] w fun e w' => e = .returned (.string (bs (evN k))) ∧ Below w.heap.size w w' := by
  by_cases h1 : k < 1
  · have e0 : evN k = [] := tabN_out (.inl h1)
    have d1 : decide (k < 1) = true := decide_eq_true h1
    rw [e0]
    clear h1 e0
    go_enter Tryz.func33, Tryz.ntmps33
    go_wp2_with fail
    go_ret
    exact ⟨rfl, (Below.refl _ _).alloc (Nat.le_refl _) _⟩
  by_cases h2 : 13 < k
  · have e0 : evN k = [] := tabN_out (.inr h2)
    have d1 : decide (k < 1) = false := decide_eq_false h1
    have d2 : decide (14 ≤ k) = true := decide_eq_true (by omega)
    rw [e0]
    clear h1 h2 e0
    go_enter Tryz.func33, Tryz.ntmps33
    go_wp2_with fail
    go_ret
    exact ⟨rfl, (Below.refl _ _).alloc (Nat.le_refl _) _⟩
  have hc : k = 1 ∨ k = 2 ∨ k = 3 ∨ k = 4 ∨ k = 5 ∨ k = 6 ∨ k = 7 ∨ k = 8 ∨ k = 9 ∨ k = 10 ∨ k = 11 ∨ k = 12 ∨ k = 13 := by omega
  clear h1 h2
  rcases hc with rfl | rfl | rfl | rfl | rfl | rfl | rfl | rfl | rfl | rfl | rfl | rfl | rfl
  all_goals
    go_enter Tryz.func33, Tryz.ntmps33
    go_wp2_with fail
    go_ret
    exact ⟨rfl, (Below.refl _ _).alloc (Nat.le_refl _) _⟩
end Go.Proofs.YtakdkiggaalimaaGreatDoor
