/-
  responseplan.isKind, responseplan.Satisfies, samaritanref31.Does and the fixed examples (samaritanlaw31.wakes): what each returns, for every integer.
-/
import Derived.Test.YtcpplebgocbnhaaDoorUnmet
import Derived.BigGuardPart
import Derived.Deep.Light
namespace Go.Proofs.YtcpplebgocbnhaaDoor
open Go.RowKit Go.Maps

def kindB (n : Int) : Bool := decide (1 ≤ n ∧ n ≤ 4)
def satB (k x : Int) : Bool := kindB k && kindB x && (k == x || k == 2 && x == 1)

theorem isKind_any (n : Int) (w : World) :
    Calls Tryd.prog 62 #[.int .i64 n] w fun e w' => e = .returned (.bool (kindB n)) ∧ w = w' := by
  go_enter Tryd.func62, Tryd.ntmps62
  go_wp2_with fail
  all_goals go_ret
  all_goals refine ⟨ret_bool ?_, rfl⟩
  all_goals rw [Bool.eq_iff_iff]
  all_goals simp [kindB]
  all_goals omega

theorem sat_any (k x : Int) (w : World) :
    Calls Tryd.prog 46 #[.int .i64 k, .int .i64 x] w fun e w' => e = .returned (.bool (satB k x)) ∧ w = w' := by
  go_enter Tryd.func46, Tryd.ntmps46
  go_wp2_with (go_at_call 62; refine (isKind_any _ _).mono ?_; rintro e w' ⟨rfl, rfl⟩)
  all_goals go_ret
  all_goals refine ⟨ret_bool ?_, rfl⟩
  all_goals go_light
  all_goals rw [Bool.eq_iff_iff]
  all_goals simp_all [satB, kindB]
  all_goals omega

theorem bd2 : unmet [1, 3, 1] [2, 3] = [1] := by decide

set_option maxRecDepth 100000 in
theorem wakes_any (w : World) :
    Calls Tryd.prog 25 #[] w fun e w' => e = .returned (.bool true) ∧ Below w.heap.size w w' := by
  go_enter Tryd.func25, Tryd.ntmps25
  go_wp2_with fail
  refine (unmet_any (some ⟨w.heap.size, 0, none⟩) (some ⟨w.heap.size + 1, 0, none⟩) 3 2 [1, 3, 1] [2, 3] _ ?_ ?_ (by decide) (by decide) (by decide) (by decide)).mono ?_
  · exact ((Sl.lit w [.int .i64 1, .int .i64 3, .int .i64 1] 3 rfl).alloc (Nat.le_refl _) _).more (by simp)
  · exact Sl.lit (w.alloc (.cells #[.int .i64 1, .int .i64 3, .int .i64 1] 3)) [.int .i64 2, .int .i64 3] 3 (by simp)
  rintro e w' ⟨v, rfl, hown, hb⟩
  rw [bd2] at hown
  obtain ⟨A, c, rfl, hs⟩ := hown.sl
  obtain ⟨b, o, rfl, _, hc⟩ := hs 0 (.int .i64 1) rfl
  rw [Nat.add_zero] at hc
  have hbel : Below w.heap.size w w' := (((Below.refl _ _).alloc (Nat.le_refl _) _).alloc (by simp) _).trans (hb.mono (by simp; omega))
  have HB := Lib.hid hbel
  clear hbel hs hown hb
  go_wp2_with fail
  refine (sat_any _ _ _).mono ?_
  rintro e w' ⟨rfl, rfl⟩
  rw [show satB 2 1 = true from rfl]
  go_wp2_with fail
  refine (sat_any _ _ _).mono ?_
  rintro e w' ⟨rfl, rfl⟩
  rw [show satB 1 2 = false from rfl]
  go_wp2_with fail
  go_ret
  exact ⟨rfl, HB.out⟩

end Go.Proofs.YtcpplebgocbnhaaDoor
