/-
  samaritanref06: Code, within, unit, edge, plan.
-/
import Derived.Test.YtloacoalmfaceaaGreatDoorValid6
namespace Go.Proofs.YtloacoalmfaceaaGreatDoor
open Go.RowKit

set_option maxHeartbeats 1000000 in
theorem refCode_any (s : ByteArray) (hs : s.size ≤ 9223372036854775807) (w : World) : Calls Tryz.prog 51 #[.string s] w fun e w' => e = .returned (.bool (tb (CodeOk s))) ∧ w' = w := by
  go_enter Tryz.func51, Tryz.ntmps51
  go_wp2_with fail
  go_loopw [3] (fun i X => ∃ k : Nat, k ≤ s.size ∧ i = .int .i64 k ∧ X = w ∧ ∀ b ∈ s.data.toList.take k, 33 ≤ b.toNat ∧ b.toNat ≤ 126) (fun i _ => s.size - (intOf i).toNat)
  case atStart => exact ⟨0, by omega, rfl, rfl, by simp⟩
  case round =>
    obtain ⟨k, hk, rfl, rfl, hok⟩ := hrel
    have HOK := Lib.hid hok
    clear hok
    by_cases hlt : k < s.size
    · have HC := Lib.hid (byte_at hlt)
      have hlt' : (k : Int) < (s.size : Int) := by omega
      by_cases hc1 : 33 ≤ s[k].toNat
      · have hc1' : decide ((s[k].toNat : Int) < 33) = false := decide_eq_false (by omega)
        by_cases hc2 : s[k].toNat ≤ 126
        · have hc2' : decide ((126 : Int) < (s[k].toNat : Int)) = false := decide_eq_false (by omega)
          go_wp2_with fail
          go_roundw
          case rel => exact ⟨k + 1, by omega, by go_num, trivial, (all_take_iff HC.out).2 ⟨HOK.out, hc1, hc2⟩⟩
          case measure => simp [intOf]; omega
        · have hc2' : decide ((126 : Int) < (s[k].toNat : Int)) = true := decide_eq_true (by omega)
          go_wp2_with fail
          go_ret
          exact ⟨ret_no (fun h => hc2 (h.2 _ (List.mem_of_getElem? HC.out)).2), rfl⟩
      · have hc1' : decide ((s[k].toNat : Int) < 33) = true := decide_eq_true (by omega)
        go_wp2_with fail
        go_ret
        exact ⟨ret_no (fun h => hc1 (h.2 _ (List.mem_of_getElem? HC.out)).1), rfl⟩
    · have hkk : k = s.size := by omega
      subst hkk
      have HA := Lib.hid (show ∀ b ∈ s.data.toList, 33 ≤ b.toNat ∧ b.toNat ≤ 126 from by have := HOK.out; rwa [List.take_of_length_le (by simp)] at this)
      by_cases h1 : 1 ≤ s.size
      · have d1 : decide ((1 : Int) ≤ (s.size : Int)) = true := decide_eq_true (by omega)
        by_cases h40 : s.size ≤ 40
        · have d2 : decide ((s.size : Int) ≤ 40) = true := decide_eq_true (by omega)
          go_wp2_with fail
          go_ret
          exact ⟨ret_yes ⟨⟨h1, h40⟩, HA.out⟩, rfl⟩
        · have d2 : decide ((s.size : Int) ≤ 40) = false := decide_eq_false (by omega)
          go_wp2_with fail
          go_ret
          exact ⟨ret_no (fun h => h40 h.1.2), rfl⟩
      · have d1 : decide ((1 : Int) ≤ (s.size : Int)) = false := decide_eq_false (by omega)
        go_wp2_with fail
        go_ret
        exact ⟨ret_no (fun h => h1 h.1.1), rfl⟩
theorem within_any (n lo hi : Int) (w : World) : Calls Tryz.prog 31 #[.int .i64 n, .int .i64 lo, .int .i64 hi] w fun e w' => e = .returned (.bool (tb (lo ≤ n ∧ n ≤ hi))) ∧ w' = w := by
  obtain ⟨b, hb⟩ : ∃ b, b = tb (lo ≤ n ∧ n ≤ hi) := ⟨_, rfl⟩
  have HB := Lib.hid hb
  rw [← hb]
  clear hb
  by_cases h1 : lo ≤ n
  · have d1 : decide (lo ≤ n) = true := decide_eq_true h1
    by_cases h2 : n ≤ hi
    · have d2 : decide (n ≤ hi) = true := decide_eq_true h2
      have HT := Lib.hid (tb_true (P := lo ≤ n ∧ n ≤ hi) ⟨h1, h2⟩)
      clear h1 h2
      go_enter Tryz.func31, Tryz.ntmps31
      go_wp2_with fail
      go_ret
      exact ⟨ret_bool (by rw [HB.out]; exact HT.out.symm), rfl⟩
    · have d2 : decide (n ≤ hi) = false := decide_eq_false h2
      have HT := Lib.hid (tb_false (P := lo ≤ n ∧ n ≤ hi) (fun h => h2 h.2))
      clear h1 h2
      go_enter Tryz.func31, Tryz.ntmps31
      go_wp2_with fail
      go_ret
      exact ⟨ret_bool (by rw [HB.out]; exact HT.out.symm), rfl⟩
  · have d1 : decide (lo ≤ n) = false := decide_eq_false h1
    have HT := Lib.hid (tb_false (P := lo ≤ n ∧ n ≤ hi) (fun h => h1 h.1))
    clear h1
    go_enter Tryz.func31, Tryz.ntmps31
    go_wp2_with fail
    go_ret
    exact ⟨ret_bool (by rw [HB.out]; exact HT.out.symm), rfl⟩
end Go.Proofs.YtloacoalmfaceaaGreatDoor
