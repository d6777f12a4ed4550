/-
  samaritanref31.Small: what it returns, for every slice of plans.
-/
import Derived.Test.YtcpplebgocbnhaaDoorUnmet
import Derived.Test.YtcpplebgocbnhaaDoorMemB
import Derived.BigGuardPart
import Derived.Deep.QuietTactic
import Derived.BigQuiet
import Derived.Deep.Light
import Derived.Test.YtcpplebgocbnhaaDoorPlans
import Derived.Deep.LoopGhost
import Derived.Lib.SliceRun
namespace Go.Proofs.YtcpplebgocbnhaaDoor
open Go.RowKit Go.Maps

def planSmall (p : Plan) : Bool := decide (p.code.size ≤ 100 ∧ p.kinds.length ≤ 20)
def smallP (ps : List Plan) : Bool := ps.all planSmall && decide (ps.length ≤ 40)

set_option maxRecDepth 100000 in
theorem small_any (A : Option Addr) (c : Nat) (ps : List Plan) (w : World) (B : Nat) (hp : Plans w B A ps) (hl : ps.length ≤ 9223372036854775807) :
    Calls Tryd.prog 26 #[.slice A ps.length c] w fun e w' => e = .returned (.bool (smallP ps)) ∧ w = w' := by
  go_enter Tryd.func26, Tryd.ntmps26
  go_wp2_with fail
  go_loop [3] (fun i => ∃ k : Nat, k ≤ ps.length ∧ i = .int .i64 k ∧ (ps.take k).all planSmall = true) (fun i => ps.length - (intOf i).toNat)
  case atStart => exact ⟨0, Nat.zero_le _, rfl, rfl⟩
  case round =>
    obtain ⟨k, hk, rfl, hall⟩ := hrel
    have HALL := Lib.hid hall
    clear hall
    by_cases hlt : k < ps.length
    · obtain ⟨p, hpk⟩ : ∃ p, ps[k]? = some p := ⟨ps[k], by simp⟩
      obtain ⟨⟨b, o, rfl, hb, c0, c1, c2, _⟩, hwf⟩ := hp k p hpk
      have HPK := Lib.hid hpk
      have hcs := hwf.code
      have hks := hwf.len
      have hkc := hwf.cap
      clear hpk hwf
      have HNO : Hid (¬ (p.code.size ≤ 100 ∧ p.kinds.length ≤ 20) → smallP ps = false) := by
        intro h
        have : ps.all planSmall = false := by
          rw [List.all_eq_false]
          exact ⟨p, List.mem_of_getElem? HPK.out, by simp only [planSmall, h]; simp⟩
        simp [smallP, this]
      go_wp2_with fail
      · go_ret
        exact ⟨ret_bool (HNO.out (by omega)).symm, rfl⟩
      · go_ret
        exact ⟨ret_bool (HNO.out (by omega)).symm, rfl⟩
      · go_round
        case rel =>
          refine ⟨k + 1, by omega, by go_num, ?_⟩
          rw [take_snoc HPK.out]
          simp only [List.all_append, HALL.out]
          simp [planSmall]
          omega
        case measure => simp [intOf]; omega
    · have hkk : k = ps.length := by omega
      subst hkk
      rw [List.take_length] at HALL
      go_wp2_with fail
      go_ret
      refine ⟨ret_bool ?_, rfl⟩
      rw [smallP, HALL.out, Bool.true_and]
      exact decide_eq_decide.2 (by omega)

end Go.Proofs.YtcpplebgocbnhaaDoor
