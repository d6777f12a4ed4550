/-
  trace.actionFields, trace.eventFields (printed by gentrfl.py).
-/
import Derived.Test.YtakdkiggaalimaaGreatDoorTrM
namespace Go.Proofs.YtakdkiggaalimaaGreatDoor
open Go.RowKit Go.Maps

set_option maxRecDepth 100000 in
set_option maxHeartbeats 4000000 in
theorem aFields_1 (w : World) : Calls Tryz.prog 72 #[.int .i64 1] w (RetFs (actN 1) (actF 1) w) := by
  go_enter Tryz.func72, Tryz.ntmps72
  go_wp2_with fail
  go_ret2
  exact RetFs.lit (actN 1) (actF 1) w rfl rfl
set_option maxRecDepth 100000 in
set_option maxHeartbeats 4000000 in
theorem aFields_2 (w : World) : Calls Tryz.prog 72 #[.int .i64 2] w (RetFs (actN 2) (actF 2) w) := by
  go_enter Tryz.func72, Tryz.ntmps72
  go_wp2_with fail
  go_ret2
  exact RetFs.lit (actN 2) (actF 2) w rfl rfl
set_option maxRecDepth 100000 in
set_option maxHeartbeats 4000000 in
theorem aFields_3 (w : World) : Calls Tryz.prog 72 #[.int .i64 3] w (RetFs (actN 3) (actF 3) w) := by
  go_enter Tryz.func72, Tryz.ntmps72
  go_wp2_with fail
  go_ret2
  exact RetFs.lit (actN 3) (actF 3) w rfl rfl
set_option maxRecDepth 100000 in
set_option maxHeartbeats 4000000 in
theorem aFields_4 (w : World) : Calls Tryz.prog 72 #[.int .i64 4] w (RetFs (actN 4) (actF 4) w) := by
  go_enter Tryz.func72, Tryz.ntmps72
  go_wp2_with fail
  go_ret2
  exact RetFs.zero (actN 4) w
set_option maxRecDepth 100000 in
set_option maxHeartbeats 4000000 in
theorem aFields_5 (w : World) : Calls Tryz.prog 72 #[.int .i64 5] w (RetFs (actN 5) (actF 5) w) := by
  go_enter Tryz.func72, Tryz.ntmps72
  go_wp2_with fail
  go_ret2
  exact RetFs.lit (actN 5) (actF 5) w rfl rfl
set_option maxRecDepth 100000 in
set_option maxHeartbeats 4000000 in
theorem aFields_6 (w : World) : Calls Tryz.prog 72 #[.int .i64 6] w (RetFs (actN 6) (actF 6) w) := by
  go_enter Tryz.func72, Tryz.ntmps72
  go_wp2_with fail
  go_ret2
  exact RetFs.lit (actN 6) (actF 6) w rfl rfl
set_option maxRecDepth 100000 in
set_option maxHeartbeats 4000000 in
theorem aFields_7 (w : World) : Calls Tryz.prog 72 #[.int .i64 7] w (RetFs (actN 7) (actF 7) w) := by
  go_enter Tryz.func72, Tryz.ntmps72
  go_wp2_with fail
  go_ret2
  exact RetFs.lit (actN 7) (actF 7) w rfl rfl
set_option maxRecDepth 100000 in
set_option maxHeartbeats 4000000 in
theorem aFields_8 (w : World) : Calls Tryz.prog 72 #[.int .i64 8] w (RetFs (actN 8) (actF 8) w) := by
  go_enter Tryz.func72, Tryz.ntmps72
  go_wp2_with fail
  go_ret2
  exact RetFs.lit (actN 8) (actF 8) w rfl rfl
set_option maxRecDepth 100000 in
set_option maxHeartbeats 4000000 in
theorem aFields_9 (w : World) : Calls Tryz.prog 72 #[.int .i64 9] w (RetFs (actN 9) (actF 9) w) := by
  go_enter Tryz.func72, Tryz.ntmps72
  go_wp2_with fail
  go_ret2
  exact RetFs.zero (actN 9) w
set_option maxRecDepth 100000 in
set_option maxHeartbeats 4000000 in
theorem aFields_10 (w : World) : Calls Tryz.prog 72 #[.int .i64 10] w (RetFs (actN 10) (actF 10) w) := by
  go_enter Tryz.func72, Tryz.ntmps72
  go_wp2_with fail
  go_ret2
  exact RetFs.lit (actN 10) (actF 10) w rfl rfl
set_option maxRecDepth 100000 in
set_option maxHeartbeats 4000000 in
theorem aFields_11 (w : World) : Calls Tryz.prog 72 #[.int .i64 11] w (RetFs (actN 11) (actF 11) w) := by
  go_enter Tryz.func72, Tryz.ntmps72
  go_wp2_with fail
  go_ret2
  exact RetFs.lit (actN 11) (actF 11) w rfl rfl
set_option maxRecDepth 100000 in
set_option maxHeartbeats 4000000 in
theorem aFields_12 (w : World) : Calls Tryz.prog 72 #[.int .i64 12] w (RetFs (actN 12) (actF 12) w) := by
  go_enter Tryz.func72, Tryz.ntmps72
  go_wp2_with fail
  go_ret2
  exact RetFs.lit (actN 12) (actF 12) w rfl rfl
set_option maxRecDepth 100000 in
set_option maxHeartbeats 4000000 in
theorem aFields_13 (w : World) : Calls Tryz.prog 72 #[.int .i64 13] w (RetFs (actN 13) (actF 13) w) := by
  go_enter Tryz.func72, Tryz.ntmps72
  go_wp2_with fail
  go_ret2
  exact RetFs.lit (actN 13) (actF 13) w rfl rfl
set_option maxRecDepth 100000 in
set_option maxHeartbeats 4000000 in
theorem aFields_14 (w : World) : Calls Tryz.prog 72 #[.int .i64 14] w (RetFs (actN 14) (actF 14) w) := by
  go_enter Tryz.func72, Tryz.ntmps72
  go_wp2_with fail
  go_ret2
  exact RetFs.lit (actN 14) (actF 14) w rfl rfl
set_option maxRecDepth 100000 in
set_option maxHeartbeats 4000000 in
theorem aFields_15 (w : World) : Calls Tryz.prog 72 #[.int .i64 15] w (RetFs (actN 15) (actF 15) w) := by
  go_enter Tryz.func72, Tryz.ntmps72
  go_wp2_with fail
  go_ret2
  exact RetFs.lit (actN 15) (actF 15) w rfl rfl
set_option maxRecDepth 100000 in
set_option maxHeartbeats 4000000 in
theorem aFields_16 (w : World) : Calls Tryz.prog 72 #[.int .i64 16] w (RetFs (actN 16) (actF 16) w) := by
  go_enter Tryz.func72, Tryz.ntmps72
  go_wp2_with fail
  go_ret2
  exact RetFs.lit (actN 16) (actF 16) w rfl rfl
set_option maxRecDepth 100000 in
set_option maxHeartbeats 4000000 in
theorem aFields_17 (w : World) : Calls Tryz.prog 72 #[.int .i64 17] w (RetFs (actN 17) (actF 17) w) := by
  go_enter Tryz.func72, Tryz.ntmps72
  go_wp2_with fail
  go_ret2
  exact RetFs.lit (actN 17) (actF 17) w rfl rfl
set_option maxRecDepth 100000 in
set_option maxHeartbeats 4000000 in
theorem aFields_18 (w : World) : Calls Tryz.prog 72 #[.int .i64 18] w (RetFs (actN 18) (actF 18) w) := by
  go_enter Tryz.func72, Tryz.ntmps72
  go_wp2_with fail
  go_ret2
  exact RetFs.lit (actN 18) (actF 18) w rfl rfl
set_option maxRecDepth 100000 in
set_option maxHeartbeats 4000000 in
theorem aFields_19 (w : World) : Calls Tryz.prog 72 #[.int .i64 19] w (RetFs (actN 19) (actF 19) w) := by
  go_enter Tryz.func72, Tryz.ntmps72
  go_wp2_with fail
  go_ret2
  exact RetFs.lit (actN 19) (actF 19) w rfl rfl
set_option maxRecDepth 100000 in
set_option maxHeartbeats 4000000 in
theorem aFields_out (w : World) (k : Int) (h : k < 1 ∨ 19 < k) : Calls Tryz.prog 72 #[.int .i64 k] w (RetFs (actN k) (actF k) w) := by
  rw [show actN k = [] from tabN_out h, show actF k = [] from tabF_out h]
  have d1 : (k == 1) = false := beq_eq_false_iff_ne.2 (by omega)
  have d2 : (k == 2) = false := beq_eq_false_iff_ne.2 (by omega)
  have d3 : (k == 3) = false := beq_eq_false_iff_ne.2 (by omega)
  have d4 : (k == 4) = false := beq_eq_false_iff_ne.2 (by omega)
  have d5 : (k == 5) = false := beq_eq_false_iff_ne.2 (by omega)
  have d6 : (k == 6) = false := beq_eq_false_iff_ne.2 (by omega)
  have d7 : (k == 7) = false := beq_eq_false_iff_ne.2 (by omega)
  have d8 : (k == 8) = false := beq_eq_false_iff_ne.2 (by omega)
  have d9 : (k == 9) = false := beq_eq_false_iff_ne.2 (by omega)
  have d10 : (k == 10) = false := beq_eq_false_iff_ne.2 (by omega)
  have d11 : (k == 11) = false := beq_eq_false_iff_ne.2 (by omega)
  have d12 : (k == 12) = false := beq_eq_false_iff_ne.2 (by omega)
  have d13 : (k == 13) = false := beq_eq_false_iff_ne.2 (by omega)
  have d14 : (k == 14) = false := beq_eq_false_iff_ne.2 (by omega)
  have d15 : (k == 15) = false := beq_eq_false_iff_ne.2 (by omega)
  have d16 : (k == 16) = false := beq_eq_false_iff_ne.2 (by omega)
  have d17 : (k == 17) = false := beq_eq_false_iff_ne.2 (by omega)
  have d18 : (k == 18) = false := beq_eq_false_iff_ne.2 (by omega)
  have d19 : (k == 19) = false := beq_eq_false_iff_ne.2 (by omega)
  clear h
  go_enter Tryz.func72, Tryz.ntmps72
  go_wp2_with fail
  go_ret2
  exact RetFs.zero [] w
theorem aFields_any (w : World) (k : Int) : Calls Tryz.prog 72 #[.int .i64 k] w (RetFs (actN k) (actF k) w) := by
  by_cases h : k < 1 ∨ 19 < k
  · exact aFields_out w k h
  have hc : k = 1 ∨ k = 2 ∨ k = 3 ∨ k = 4 ∨ k = 5 ∨ k = 6 ∨ k = 7 ∨ k = 8 ∨ k = 9 ∨ k = 10 ∨ k = 11 ∨ k = 12 ∨ k = 13 ∨ k = 14 ∨ k = 15 ∨ k = 16 ∨ k = 17 ∨ k = 18 ∨ k = 19 := by omega
  rcases hc with rfl | rfl | rfl | rfl | rfl | rfl | rfl | rfl | rfl | rfl | rfl | rfl | rfl | rfl | rfl | rfl | rfl | rfl | rfl
  · exact aFields_1 w
  · exact aFields_2 w
  · exact aFields_3 w
  · exact aFields_4 w
  · exact aFields_5 w
  · exact aFields_6 w
  · exact aFields_7 w
  · exact aFields_8 w
  · exact aFields_9 w
  · exact aFields_10 w
  · exact aFields_11 w
  · exact aFields_12 w
  · exact aFields_13 w
  · exact aFields_14 w
  · exact aFields_15 w
  · exact aFields_16 w
  · exact aFields_17 w
  · exact aFields_18 w
  · exact aFields_19 w
set_option maxRecDepth 100000 in
set_option maxHeartbeats 4000000 in
theorem eFields_1 (w : World) : Calls Tryz.prog 58 #[.int .i64 1] w (RetFs (evN 1) (evF 1) w) := by
  go_enter Tryz.func58, Tryz.ntmps58
  go_wp2_with fail
  go_ret2
  exact RetFs.lit (evN 1) (evF 1) w rfl rfl
set_option maxRecDepth 100000 in
set_option maxHeartbeats 4000000 in
theorem eFields_2 (w : World) : Calls Tryz.prog 58 #[.int .i64 2] w (RetFs (evN 2) (evF 2) w) := by
  go_enter Tryz.func58, Tryz.ntmps58
  go_wp2_with fail
  go_ret2
  exact RetFs.lit (evN 2) (evF 2) w rfl rfl
set_option maxRecDepth 100000 in
set_option maxHeartbeats 4000000 in
theorem eFields_3 (w : World) : Calls Tryz.prog 58 #[.int .i64 3] w (RetFs (evN 3) (evF 3) w) := by
  go_enter Tryz.func58, Tryz.ntmps58
  go_wp2_with fail
  go_ret2
  exact RetFs.lit (evN 3) (evF 3) w rfl rfl
set_option maxRecDepth 100000 in
set_option maxHeartbeats 4000000 in
theorem eFields_4 (w : World) : Calls Tryz.prog 58 #[.int .i64 4] w (RetFs (evN 4) (evF 4) w) := by
  go_enter Tryz.func58, Tryz.ntmps58
  go_wp2_with fail
  go_ret2
  exact RetFs.lit (evN 4) (evF 4) w rfl rfl
set_option maxRecDepth 100000 in
set_option maxHeartbeats 4000000 in
theorem eFields_5 (w : World) : Calls Tryz.prog 58 #[.int .i64 5] w (RetFs (evN 5) (evF 5) w) := by
  go_enter Tryz.func58, Tryz.ntmps58
  go_wp2_with fail
  go_ret2
  exact RetFs.lit (evN 5) (evF 5) w rfl rfl
set_option maxRecDepth 100000 in
set_option maxHeartbeats 4000000 in
theorem eFields_6 (w : World) : Calls Tryz.prog 58 #[.int .i64 6] w (RetFs (evN 6) (evF 6) w) := by
  go_enter Tryz.func58, Tryz.ntmps58
  go_wp2_with fail
  go_ret2
  exact RetFs.lit (evN 6) (evF 6) w rfl rfl
set_option maxRecDepth 100000 in
set_option maxHeartbeats 4000000 in
theorem eFields_7 (w : World) : Calls Tryz.prog 58 #[.int .i64 7] w (RetFs (evN 7) (evF 7) w) := by
  go_enter Tryz.func58, Tryz.ntmps58
  go_wp2_with fail
  go_ret2
  exact RetFs.lit (evN 7) (evF 7) w rfl rfl
set_option maxRecDepth 100000 in
set_option maxHeartbeats 4000000 in
theorem eFields_8 (w : World) : Calls Tryz.prog 58 #[.int .i64 8] w (RetFs (evN 8) (evF 8) w) := by
  go_enter Tryz.func58, Tryz.ntmps58
  go_wp2_with fail
  go_ret2
  exact RetFs.lit (evN 8) (evF 8) w rfl rfl
set_option maxRecDepth 100000 in
set_option maxHeartbeats 4000000 in
theorem eFields_9 (w : World) : Calls Tryz.prog 58 #[.int .i64 9] w (RetFs (evN 9) (evF 9) w) := by
  go_enter Tryz.func58, Tryz.ntmps58
  go_wp2_with fail
  go_ret2
  exact RetFs.lit (evN 9) (evF 9) w rfl rfl
set_option maxRecDepth 100000 in
set_option maxHeartbeats 4000000 in
theorem eFields_10 (w : World) : Calls Tryz.prog 58 #[.int .i64 10] w (RetFs (evN 10) (evF 10) w) := by
  go_enter Tryz.func58, Tryz.ntmps58
  go_wp2_with fail
  go_ret2
  exact RetFs.lit (evN 10) (evF 10) w rfl rfl
set_option maxRecDepth 100000 in
set_option maxHeartbeats 4000000 in
theorem eFields_11 (w : World) : Calls Tryz.prog 58 #[.int .i64 11] w (RetFs (evN 11) (evF 11) w) := by
  go_enter Tryz.func58, Tryz.ntmps58
  go_wp2_with fail
  go_ret2
  exact RetFs.lit (evN 11) (evF 11) w rfl rfl
set_option maxRecDepth 100000 in
set_option maxHeartbeats 4000000 in
theorem eFields_12 (w : World) : Calls Tryz.prog 58 #[.int .i64 12] w (RetFs (evN 12) (evF 12) w) := by
  go_enter Tryz.func58, Tryz.ntmps58
  go_wp2_with fail
  go_ret2
  exact RetFs.lit (evN 12) (evF 12) w rfl rfl
set_option maxRecDepth 100000 in
set_option maxHeartbeats 4000000 in
theorem eFields_13 (w : World) : Calls Tryz.prog 58 #[.int .i64 13] w (RetFs (evN 13) (evF 13) w) := by
  go_enter Tryz.func58, Tryz.ntmps58
  go_wp2_with fail
  go_ret2
  exact RetFs.lit (evN 13) (evF 13) w rfl rfl
set_option maxRecDepth 100000 in
set_option maxHeartbeats 4000000 in
theorem eFields_out (w : World) (k : Int) (h : k < 1 ∨ 13 < k) : Calls Tryz.prog 58 #[.int .i64 k] w (RetFs (evN k) (evF k) w) := by
  rw [show evN k = [] from tabN_out h, show evF k = [] from tabF_out h]
  have d1 : (k == 1) = false := beq_eq_false_iff_ne.2 (by omega)
  have d2 : (k == 2) = false := beq_eq_false_iff_ne.2 (by omega)
  have d3 : (k == 3) = false := beq_eq_false_iff_ne.2 (by omega)
  have d4 : (k == 4) = false := beq_eq_false_iff_ne.2 (by omega)
  have d5 : (k == 5) = false := beq_eq_false_iff_ne.2 (by omega)
  have d6 : (k == 6) = false := beq_eq_false_iff_ne.2 (by omega)
  have d7 : (k == 7) = false := beq_eq_false_iff_ne.2 (by omega)
  have d8 : (k == 8) = false := beq_eq_false_iff_ne.2 (by omega)
  have d9 : (k == 9) = false := beq_eq_false_iff_ne.2 (by omega)
  have d10 : (k == 10) = false := beq_eq_false_iff_ne.2 (by omega)
  have d11 : (k == 11) = false := beq_eq_false_iff_ne.2 (by omega)
  have d12 : (k == 12) = false := beq_eq_false_iff_ne.2 (by omega)
  have d13 : (k == 13) = false := beq_eq_false_iff_ne.2 (by omega)
  clear h
  go_enter Tryz.func58, Tryz.ntmps58
  go_wp2_with fail
  go_ret2
  exact RetFs.zero [] w
theorem eFields_any (w : World) (k : Int) : Calls Tryz.prog 58 #[.int .i64 k] w (RetFs (evN k) (evF k) w) := by
  by_cases h : k < 1 ∨ 13 < k
  · exact eFields_out w k h
  have hc : k = 1 ∨ k = 2 ∨ k = 3 ∨ k = 4 ∨ k = 5 ∨ k = 6 ∨ k = 7 ∨ k = 8 ∨ k = 9 ∨ k = 10 ∨ k = 11 ∨ k = 12 ∨ k = 13 := by omega
  rcases hc with rfl | rfl | rfl | rfl | rfl | rfl | rfl | rfl | rfl | rfl | rfl | rfl | rfl
  · exact eFields_1 w
  · exact eFields_2 w
  · exact eFields_3 w
  · exact eFields_4 w
  · exact eFields_5 w
  · exact eFields_6 w
  · exact eFields_7 w
  · exact eFields_8 w
  · exact eFields_9 w
  · exact eFields_10 w
  · exact eFields_11 w
  · exact eFields_12 w
  · exact eFields_13 w
end Go.Proofs.YtakdkiggaalimaaGreatDoor
