/-
  config: isIndex, isKind, isCode.
-/
import Derived.Test.YtloacoalmfaceaaGreatDoorCfg
import Derived.Deep.QuietTactic
import Derived.BigQuiet
import Derived.IntWalk
namespace Go.Proofs.YtloacoalmfaceaaGreatDoor
open Go.RowKit

theorem isIndex_any (i n : Int) (w : World) : Calls Tryz.prog 22 #[.int .i64 i, .int .i64 n] w fun e w' => e = .returned (.bool (tb (Idx i n))) ∧ w' = w := by
  by_cases h0 : 0 ≤ i
  · by_cases h1 : i < n
    · go_enter Tryz.func22, Tryz.ntmps22
      go_wp2_with fail
      go_ret
      exact ⟨ret_yes ⟨h0, h1⟩, rfl⟩
    · have HN := Lib.hid (show ¬ Idx i n from fun h => h1 h.2)
      go_enter Tryz.func22, Tryz.ntmps22
      go_wp2_with fail
      go_ret
      exact ⟨ret_no HN.out, rfl⟩
  · have HN := Lib.hid (show ¬ Idx i n from fun h => h0 h.1)
    go_enter Tryz.func22, Tryz.ntmps22
    go_wp2_with fail
    go_ret
    exact ⟨ret_no HN.out, rfl⟩
theorem isKind_any (k : Int) (w : World) : Calls Tryz.prog 49 #[.int .i64 k] w fun e w' => e = .returned (.bool (tb (KindOk k))) ∧ w' = w := by
  by_cases h0 : 1 ≤ k
  · by_cases h1 : k ≤ 4
    · go_enter Tryz.func49, Tryz.ntmps49
      go_wp2_with fail
      go_ret
      exact ⟨ret_yes ⟨h0, h1⟩, rfl⟩
    · have HN := Lib.hid (show ¬ KindOk k from fun h => h1 h.2)
      go_enter Tryz.func49, Tryz.ntmps49
      go_wp2_with fail
      go_ret
      exact ⟨ret_no HN.out, rfl⟩
  · have HN := Lib.hid (show ¬ KindOk k from fun h => h0 h.1)
    go_enter Tryz.func49, Tryz.ntmps49
    go_wp2_with fail
    go_ret
    exact ⟨ret_no HN.out, rfl⟩
theorem byte_at {s : ByteArray} {k : Nat} (h : k < s.size) : s.data.toList[k]? = some s[k] := by
  rw [List.getElem?_eq_getElem (by simpa using h)]; rfl
set_option maxHeartbeats 1000000 in
theorem isCode_any (s : ByteArray) (w : World) : Calls Tryz.prog 50 #[.string s] w fun e w' => e = .returned (.bool (tb (CodeOk s))) ∧ w' = w := by
  by_cases h1 : 1 ≤ s.size
  · by_cases h40 : s.size ≤ 40
    · have d1 : ¬ (s.size : Int) < 1 := by omega
      have d2 : ¬ (40 : Int) < (s.size : Int) := by omega
      go_enter Tryz.func50, Tryz.ntmps50
      go_wp2_with fail
      go_loopw [14] (fun i X => ∃ k : Nat, k ≤ s.size ∧ i = .int .i64 k ∧ X = w ∧ ∀ b ∈ s.data.toList.take k, 33 ≤ b.toNat ∧ b.toNat ≤ 126) (fun i _ => s.size - (intOf i).toNat)
      case atStart => exact ⟨0, by omega, rfl, rfl, by simp⟩
      case round =>
        obtain ⟨k, hk, rfl, rfl, hok⟩ := hrel
        have HOK := Lib.hid hok
        clear hok
        by_cases hlt : k < s.size
        · have HC := Lib.hid (byte_at hlt)
          have hlt' : (k : Int) < (s.size : Int) := by omega
          by_cases hc1 : 33 ≤ s[k].toNat
          · have hc1' : decide ((s[k].toNat : Int) < 33) = false := decide_eq_false (by omega)
            by_cases hc2 : s[k].toNat ≤ 126
            · have hc2' : decide ((126 : Int) < (s[k].toNat : Int)) = false := decide_eq_false (by omega)
              go_wp2_with fail
              go_roundw
              case rel => exact ⟨k + 1, by omega, by go_num, trivial, (all_take_iff HC.out).2 ⟨HOK.out, hc1, hc2⟩⟩
              case measure => simp [intOf]; omega
            · have hc2' : decide ((126 : Int) < (s[k].toNat : Int)) = true := decide_eq_true (by omega)
              go_wp2_with fail
              go_ret
              exact ⟨ret_no (fun h => hc2 (h.2 _ (List.mem_of_getElem? HC.out)).2), rfl⟩
          · have hc1' : decide ((s[k].toNat : Int) < 33) = true := decide_eq_true (by omega)
            go_wp2_with fail
            go_ret
            exact ⟨ret_no (fun h => hc1 (h.2 _ (List.mem_of_getElem? HC.out)).1), rfl⟩
        · have hkk : k = s.size := by omega
          subst hkk
          go_wp2_with fail
          go_ret
          refine ⟨ret_yes ⟨⟨h1, h40⟩, ?_⟩, rfl⟩
          have := HOK.out
          rwa [List.take_of_length_le (by simp)] at this
    · have d1 : ¬ (s.size : Int) < 1 := by omega
      have d2 : (40 : Int) < (s.size : Int) := by omega
      go_enter Tryz.func50, Tryz.ntmps50
      go_wp2_with fail
      go_ret
      exact ⟨ret_no (fun h => h40 h.1.2), rfl⟩
  · have d1 : (s.size : Int) < 1 := by omega
    go_enter Tryz.func50, Tryz.ntmps50
    go_wp2_with fail
    go_ret
    exact ⟨ret_no (fun h => h1 h.1.1), rfl⟩
end Go.Proofs.YtloacoalmfaceaaGreatDoor
