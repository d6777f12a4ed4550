/-
  samaritanref02: All.
-/
import Derived.Test.YtalfjcamjdmdjaaDoorRefA
import Derived.Test.YtalfjcamjdmdjaaDoorUpTo
namespace Go.Proofs.YtalfjcamjdmdjaaDoor
open Go.RowKit

theorem upI_len (k : Nat) : (upI k).length = k := by simp [upI]
theorem upI_snoc (k : Nat) : upI (k + 1) = upI k ++ [(k : Int)] := by simp [upI, List.range_succ]
set_option maxHeartbeats 1000000 in
theorem refAll_any (z : Int) (w : World) : Calls Tryd.prog 27 #[.int .i64 z] w (RetI w (upI (top z))) := by
  have htop := top_le z
  have htm : ∀ k : Nat, k ≤ top z → (k = top z ↔ ¬ ((k : Int) < z ∧ k < 4096)) := fun k hk => by unfold top at hk ⊢; omega
  obtain ⟨n, hn⟩ : ∃ n, n = top z := ⟨_, rfl⟩
  rw [← hn] at htop htm ⊢
  clear hn
  go_enter Tryd.func27, Tryd.ntmps27
  go_wp2_with fail
  go_loopw [3, 4] (fun v iv wr => ∃ k : Nat, k ≤ n ∧ iv = .int .i64 k ∧ OwnI wr w.heap.size 3 v (upI k) ∧ Below w.heap.size w wr) (fun _ i _ => n - (intOf i).toNat)
  case atStart => exact ⟨0, Nat.zero_le _, rfl, OwnV.nil _ _ _, Below.refl _ _⟩
  case round =>
    obtain ⟨k, hk, rfl, hown, hb⟩ := hrel
    have HOW := Lib.hid hown
    have HBR := Lib.hid hb
    have hbz := hb.size
    have hlen : (upI k).length ≤ 4096 := by rw [upI_len]; omega
    have HTM := Lib.hid (htm k hk)
    clear hown hb htm
    by_cases hkz : (k : Int) < z
    · by_cases hk4 : k < 4096
      · have hk4' : (k : Int) < 4096 := by omega
        have hkn : k < n := by
          rcases Nat.lt_or_ge k n with h | h
          · exact h
          · exact absurd ⟨hkz, hk4⟩ (HTM.out.1 (by omega))
        go_wp2_with (at_builtin; refine wpList_append_int _ rfl _ _ 22 rfl w.heap.size 3 Tryd.underlying22 int_infoA _ (upI k) wr k rfl rfl HOW.out rfl (by omega) hbz ?_; intro v' w' hown' hgrow')
        go_roundw
        case rel => exact ⟨k + 1, by omega, by go_num, by rw [upI_snoc]; exact hown', HBR.out.grown hgrow' HBR.out.size (fun j e => HOW.out.ge_base j e)⟩
        case measure => simp [intOf]; omega
      · have hk4' : ¬ (k : Int) < 4096 := by omega
        have hkn : k = n := HTM.out.2 (fun h => hk4 h.2)
        subst hkn
        go_wp2_with fail
        go_ret
        exact ⟨_, rfl, HOW.out, HBR.out⟩
    · have hkn : k = n := HTM.out.2 (fun h => hkz h.1)
      subst hkn
      go_wp2_with fail
      go_ret
      exact ⟨_, rfl, HOW.out, HBR.out⟩
end Go.Proofs.YtalfjcamjdmdjaaDoor
