/-
  samaritanref06: edge, unit.
-/
import Derived.Test.YtloacoalmfaceaaGreatDoorRef6A
namespace Go.Proofs.YtloacoalmfaceaaGreatDoor
open Go.RowKit

theorem two_boxes (w : World) (o1 o2 : Obj) : Below w.heap.size w ((w.alloc o1).alloc o2) := ((Below.refl _ _).alloc (Nat.le_refl _) _).alloc (by simp) _
set_option maxHeartbeats 4000000 in
theorem edgeR_any (w : World) (X : Array Value) {A : Option Addr} {n dc : Nat} (x1 : X[1]? = some (.slice A n dc)) (a b c : Int) :
    Calls Tryz.prog 27 #[.agg X, .agg #[.int .i64 a, .int .i64 b, .int .i64 c]] w fun e w' => e = .returned (.bool (tb (EdgeOk (n : Int) ⟨a, b, c⟩))) ∧ Below w.heap.size w w' := by
  by_cases h1 : 0 ≤ a
  · have d_h1 : decide (0 ≤ a) = true := decide_eq_true h1
    by_cases h2 : a < n
    · have d_h2 : decide (a < (n : Int)) = true := decide_eq_true h2
      by_cases h3 : 0 ≤ b
      · have d_h3 : decide (0 ≤ b) = true := decide_eq_true h3
        by_cases h4 : b < n
        · have d_h4 : decide (b < (n : Int)) = true := decide_eq_true h4
          by_cases h5 : 1 ≤ c
          · have d_h5 : decide (1 ≤ c) = true := decide_eq_true h5
            by_cases h6 : c ≤ 1048576
            · have d_h6 : decide (c ≤ 1048576) = true := decide_eq_true h6
              have HY := Lib.hid (show EdgeOk (n : Int) ⟨a, b, c⟩ from by unfold EdgeOk Idx; dsimp only; omega)
              clear h1 h2 h3 h4 h5 h6
              go_enter Tryz.func27, Tryz.ntmps27
              go_wp2_with fail
              go_ret
              exact ⟨ret_yes HY.out, two_boxes _ _ _⟩
            · have d_h6 : decide (c ≤ 1048576) = false := decide_eq_false h6
              by_cases h7 : c = 4611686018427387904
              · have d_h7 : (c == 4611686018427387904) = true := beq_iff_eq.2 h7
                have HY := Lib.hid (show EdgeOk (n : Int) ⟨a, b, c⟩ from by unfold EdgeOk Idx; dsimp only; omega)
                clear h1 h2 h3 h4 h5 h6 h7
                go_enter Tryz.func27, Tryz.ntmps27
                go_wp2_with fail
                go_ret
                exact ⟨ret_yes HY.out, two_boxes _ _ _⟩
              · have d_h7 : (c == 4611686018427387904) = false := beq_eq_false_iff_ne.2 h7
                have HY := Lib.hid (show ¬ EdgeOk (n : Int) ⟨a, b, c⟩ from by unfold EdgeOk Idx; dsimp only; omega)
                clear h1 h2 h3 h4 h5 h6 h7
                go_enter Tryz.func27, Tryz.ntmps27
                go_wp2_with fail
                go_ret
                exact ⟨ret_no HY.out, two_boxes _ _ _⟩
          · have d_h5 : decide (1 ≤ c) = false := decide_eq_false h5
            by_cases h7 : c = 4611686018427387904
            · have d_h7 : (c == 4611686018427387904) = true := beq_iff_eq.2 h7
              have HY := Lib.hid (show EdgeOk (n : Int) ⟨a, b, c⟩ from by unfold EdgeOk Idx; dsimp only; omega)
              clear h1 h2 h3 h4 h5 h7
              go_enter Tryz.func27, Tryz.ntmps27
              go_wp2_with fail
              go_ret
              exact ⟨ret_yes HY.out, two_boxes _ _ _⟩
            · have d_h7 : (c == 4611686018427387904) = false := beq_eq_false_iff_ne.2 h7
              have HY := Lib.hid (show ¬ EdgeOk (n : Int) ⟨a, b, c⟩ from by unfold EdgeOk Idx; dsimp only; omega)
              clear h1 h2 h3 h4 h5 h7
              go_enter Tryz.func27, Tryz.ntmps27
              go_wp2_with fail
              go_ret
              exact ⟨ret_no HY.out, two_boxes _ _ _⟩
        · have d_h4 : decide (b < (n : Int)) = false := decide_eq_false h4
          have HY := Lib.hid (show ¬ EdgeOk (n : Int) ⟨a, b, c⟩ from by unfold EdgeOk Idx; dsimp only; omega)
          clear h1 h2 h3 h4
          go_enter Tryz.func27, Tryz.ntmps27
          go_wp2_with fail
          go_ret
          exact ⟨ret_no HY.out, two_boxes _ _ _⟩
      · have d_h3 : decide (0 ≤ b) = false := decide_eq_false h3
        have HY := Lib.hid (show ¬ EdgeOk (n : Int) ⟨a, b, c⟩ from by unfold EdgeOk Idx; dsimp only; omega)
        clear h1 h2 h3
        go_enter Tryz.func27, Tryz.ntmps27
        go_wp2_with fail
        go_ret
        exact ⟨ret_no HY.out, two_boxes _ _ _⟩
    · have d_h2 : decide (a < (n : Int)) = false := decide_eq_false h2
      have HY := Lib.hid (show ¬ EdgeOk (n : Int) ⟨a, b, c⟩ from by unfold EdgeOk Idx; dsimp only; omega)
      clear h1 h2
      go_enter Tryz.func27, Tryz.ntmps27
      go_wp2_with fail
      go_ret
      exact ⟨ret_no HY.out, two_boxes _ _ _⟩
  · have d_h1 : decide (0 ≤ a) = false := decide_eq_false h1
    have HY := Lib.hid (show ¬ EdgeOk (n : Int) ⟨a, b, c⟩ from by unfold EdgeOk Idx; dsimp only; omega)
    clear h1
    go_enter Tryz.func27, Tryz.ntmps27
    go_wp2_with fail
    go_ret
    exact ⟨ret_no HY.out, two_boxes _ _ _⟩
set_option maxHeartbeats 4000000 in
theorem unitR_any (w : World) (X : Array Value) {cen : Int} {A : Option Addr} {n dc : Nat} (x0 : X[0]? = some (.int .i64 cen)) (x1 : X[1]? = some (.slice A n dc)) (a b c : Int) :
    Calls Tryz.prog 28 #[.agg X, .agg #[.int .i64 a, .int .i64 b, .int .i64 c]] w fun e w' => e = .returned (.bool (tb (UnitOk cen (n : Int) ⟨a, b, c⟩))) ∧ Below w.heap.size w w' := by
  by_cases h1 : 1 ≤ a
  · have d_h1 : decide (1 ≤ a) = true := decide_eq_true h1
    by_cases h2 : a ≤ 4
    · have d_h2 : decide (a ≤ 4) = true := decide_eq_true h2
      by_cases h3 : 0 ≤ b
      · have d_h3 : decide (0 ≤ b) = true := decide_eq_true h3
        by_cases h4 : b < cen
        · have d_h4 : decide (b < cen) = true := decide_eq_true h4
          by_cases h5 : 0 ≤ c
          · have d_h5 : decide (0 ≤ c) = true := decide_eq_true h5
            by_cases h6 : c < n
            · have d_h6 : decide (c < (n : Int)) = true := decide_eq_true h6
              have HY := Lib.hid (show UnitOk cen (n : Int) ⟨a, b, c⟩ from by unfold UnitOk KindOk Idx; dsimp only; omega)
              clear h1 h2 h3 h4 h5 h6
              go_enter Tryz.func28, Tryz.ntmps28
              go_wp2_with fail
              go_ret
              exact ⟨ret_yes HY.out, two_boxes _ _ _⟩
            · have d_h6 : decide (c < (n : Int)) = false := decide_eq_false h6
              have HY := Lib.hid (show ¬ UnitOk cen (n : Int) ⟨a, b, c⟩ from by unfold UnitOk KindOk Idx; dsimp only; omega)
              clear h1 h2 h3 h4 h5 h6
              go_enter Tryz.func28, Tryz.ntmps28
              go_wp2_with fail
              go_ret
              exact ⟨ret_no HY.out, two_boxes _ _ _⟩
          · have d_h5 : decide (0 ≤ c) = false := decide_eq_false h5
            have HY := Lib.hid (show ¬ UnitOk cen (n : Int) ⟨a, b, c⟩ from by unfold UnitOk KindOk Idx; dsimp only; omega)
            clear h1 h2 h3 h4 h5
            go_enter Tryz.func28, Tryz.ntmps28
            go_wp2_with fail
            go_ret
            exact ⟨ret_no HY.out, two_boxes _ _ _⟩
        · have d_h4 : decide (b < cen) = false := decide_eq_false h4
          have HY := Lib.hid (show ¬ UnitOk cen (n : Int) ⟨a, b, c⟩ from by unfold UnitOk KindOk Idx; dsimp only; omega)
          clear h1 h2 h3 h4
          go_enter Tryz.func28, Tryz.ntmps28
          go_wp2_with fail
          go_ret
          exact ⟨ret_no HY.out, two_boxes _ _ _⟩
      · have d_h3 : decide (0 ≤ b) = false := decide_eq_false h3
        have HY := Lib.hid (show ¬ UnitOk cen (n : Int) ⟨a, b, c⟩ from by unfold UnitOk KindOk Idx; dsimp only; omega)
        clear h1 h2 h3
        go_enter Tryz.func28, Tryz.ntmps28
        go_wp2_with fail
        go_ret
        exact ⟨ret_no HY.out, two_boxes _ _ _⟩
    · have d_h2 : decide (a ≤ 4) = false := decide_eq_false h2
      have HY := Lib.hid (show ¬ UnitOk cen (n : Int) ⟨a, b, c⟩ from by unfold UnitOk KindOk Idx; dsimp only; omega)
      clear h1 h2
      go_enter Tryz.func28, Tryz.ntmps28
      go_wp2_with fail
      go_ret
      exact ⟨ret_no HY.out, two_boxes _ _ _⟩
  · have d_h1 : decide (1 ≤ a) = false := decide_eq_false h1
    have HY := Lib.hid (show ¬ UnitOk cen (n : Int) ⟨a, b, c⟩ from by unfold UnitOk KindOk Idx; dsimp only; omega)
    clear h1
    go_enter Tryz.func28, Tryz.ntmps28
    go_wp2_with fail
    go_ret
    exact ⟨ret_no HY.out, two_boxes _ _ _⟩
end Go.Proofs.YtloacoalmfaceaaGreatDoor
