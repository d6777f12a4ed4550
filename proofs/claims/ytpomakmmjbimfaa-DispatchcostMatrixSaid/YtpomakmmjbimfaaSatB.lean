/-
  responseplan.isKind, responseplan.Satisfies, samaritanref31.Does: what each returns.
-/
import Derived.Test.YtpomakmmjbimfaaUnmet
import Derived.BigGuardPart
import Derived.Deep.Light
namespace Go.Proofs.Ytpomakmmjbimfaa
open Go.RowKit Go.Maps

def kindB (n : Int) : Bool := decide (1 ≤ n ∧ n ≤ 4)
def satB (k x : Int) : Bool := kindB k && kindB x && (k == x || k == 2 && x == 1)

theorem isKind_any (n : Int) (w : World) :
    Calls Try.prog 47 #[.int .i64 n] w fun e w' => e = .returned (.bool (kindB n)) ∧ w = w' := by
  go_enter Try.func47, Try.ntmps47
  go_wp2_with fail
  all_goals go_ret
  all_goals refine ⟨ret_bool ?_, rfl⟩
  all_goals rw [Bool.eq_iff_iff]
  all_goals simp [kindB]
  all_goals omega

theorem sat_any (k x : Int) (w : World) :
    Calls Try.prog 31 #[.int .i64 k, .int .i64 x] w fun e w' => e = .returned (.bool (satB k x)) ∧ w = w' := by
  go_enter Try.func31, Try.ntmps31
  go_wp2_with (go_at_call 47; refine (isKind_any _ _).mono ?_; rintro e w' ⟨rfl, rfl⟩)
  all_goals go_ret
  all_goals refine ⟨ret_bool ?_, rfl⟩
  all_goals go_light
  all_goals rw [Bool.eq_iff_iff]
  all_goals simp_all [satB, kindB]
  all_goals omega

theorem does_any (k x : Int) (w : World) :
    Calls Try.prog 32 #[.int .i64 k, .int .i64 x] w fun e w' => e = .returned (.bool (satB k x)) ∧ w = w' := by
  go_enter Try.func32, Try.ntmps32
  go_wp2_with fail
  all_goals go_ret
  all_goals refine ⟨ret_bool ?_, rfl⟩
  all_goals rw [Bool.eq_iff_iff]
  all_goals simp [satB, kindB]
  all_goals omega
end Go.Proofs.Ytpomakmmjbimfaa
