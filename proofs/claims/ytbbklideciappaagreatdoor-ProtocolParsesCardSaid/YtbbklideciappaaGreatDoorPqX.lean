/-
  samaritanref12: phrase, word, code, answer, question, Right (printed by genpqx.py).
-/
import Derived.Test.YtbbklideciappaaGreatDoorPqW
namespace Go.Proofs.YtbbklideciappaaGreatDoor
open Go.RowKit

set_option maxHeartbeats 1000000 in
theorem phrase_any (s : ByteArray) (n : Nat) (hn9 : n ≤ 1000) (z : Int) (hz : z = n) (w : World) : Calls Tryz.prog 47 #[.string s, .int .i64 z] w fun e w' => e = .returned (.bool (tb (PhraseOk s n))) ∧ w' = w := by
  by_cases h1 : 1 ≤ s.size
  · have d1 : decide ((s.size : Int) < 1) = false := decide_eq_false (by omega)
    by_cases h2 : (s.size : Int) ≤ z
    · have d2 : decide (z < (s.size : Int)) = false := decide_eq_false (by omega)
      obtain ⟨m, hm⟩ : ∃ m, m + 1 = s.size := ⟨s.size - 1, by omega⟩
      have hw1 : IntKind.i64.wrap ((s.size : Int) - 1) = (m : Int) := by
        rw [IntWalk.i64_in _ (by omega)]; omega
      have hm0 : 0 < s.size := by omega
      have hm1 : m < s.size := by omega
      have hm1' : (m : Int) < (s.size : Int) := by omega
      have HP := Lib.hid (phrase_iff (n := n) hm hm0 hm1)
      have HZ := Lib.hid (And.intro h1 (And.intro h2 hz))
      have h9 : s.size ≤ 1000 := by omega
      clear hm h1 h2 hz
      by_cases h0 : s[0].toNat = 32
      · have d0 : ((s[0].toNat : Int) == 32) = true := by simp; omega
        have HN := Lib.hid (show ¬ PhraseOk s n from fun h => (HP.out.1 h).2.1 h0)
        clear h0
        go_enter Tryz.func47, Tryz.ntmps47
        go_wp2_with fail
        go_ret
        exact ⟨ret_no HN.out, rfl⟩
      · have d0 : ((s[0].toNat : Int) == 32) = false := by simp; omega
        by_cases h3 : s[m].toNat = 32
        · have d3 : ((s[m].toNat : Int) == 32) = true := by simp; omega
          have HN := Lib.hid (show ¬ PhraseOk s n from fun h => (HP.out.1 h).2.2 h3)
          clear h0 h3
          go_enter Tryz.func47, Tryz.ntmps47
          go_wp2_with fail
          go_ret
          exact ⟨ret_no HN.out, rfl⟩
        · have d3 : ((s[m].toNat : Int) == 32) = false := by simp; omega
          have H03 := Lib.hid (And.intro h0 h3)
          clear h0 h3
          go_enter Tryz.func47, Tryz.ntmps47
          go_wp2_with fail
          go_loopw [5] (fun i X => ∃ k : Nat, k ≤ s.size ∧ i = .int .i64 k ∧ X = w ∧ ∀ b ∈ s.data.toList.take k, (32 : Int) ≤ (b.toNat : Int) ∧ (b.toNat : Int) ≤ 126) (fun i _ => s.size - (intOf i).toNat)
          case atStart => exact ⟨0, by omega, rfl, rfl, by simp⟩
          case round =>
            obtain ⟨k, hk, rfl, rfl, hok⟩ := hrel
            have HOK := Lib.hid hok
            clear hok
            by_cases hlt : k < s.size
            · have HC := Lib.hid (byte_at hlt)
              have hlt' : (k : Int) < (s.size : Int) := by omega
              by_cases hc1 : 32 ≤ (s[k].toNat : Int)
              · have hc1' : decide ((s[k].toNat : Int) < 32) = false := decide_eq_false (by omega)
                by_cases hc2 : (s[k].toNat : Int) ≤ 126
                · have hc2' : decide (126 < (s[k].toNat : Int)) = false := decide_eq_false (by omega)
                  have HCC := Lib.hid (And.intro hc1 hc2)
                  clear hc1 hc2
                  go_wp2_with fail
                  go_roundw
                  case rel => exact ⟨k + 1, by omega, by go_num, trivial, (all_take_iff HC.out).2 ⟨HOK.out, HCC.out⟩⟩
                  case measure => simp [intOf]; omega
                · have hc2' : decide (126 < (s[k].toNat : Int)) = true := decide_eq_true (by omega)
                  have HCC : Hid (¬ (s[k].toNat : Int) ≤ 126) := Lib.hid hc2
                  clear hc1 hc2
                  go_wp2_with fail
                  go_ret
                  exact ⟨ret_no (fun h => by have := HCC.out; have := ((HP.out.1 h).1.2 _ (List.mem_of_getElem? HC.out)).2; omega), rfl⟩
              · have hc1' : decide ((s[k].toNat : Int) < 32) = true := decide_eq_true (by omega)
                have HCC : Hid (¬ 32 ≤ (s[k].toNat : Int)) := Lib.hid hc1
                clear hc1
                go_wp2_with fail
                go_ret
                exact ⟨ret_no (fun h => by have := HCC.out; have := ((HP.out.1 h).1.2 _ (List.mem_of_getElem? HC.out)).1; omega), rfl⟩
            · have hkk : k = s.size := by omega
              subst hkk
              go_wp2_with fail
              go_ret
              refine ⟨ret_yes (HP.out.2 ⟨⟨⟨by have := HZ.out.1; omega, by have := HZ.out.2; omega⟩, ?_⟩, H03.out.1, H03.out.2⟩), rfl⟩
              have := HOK.out
              rwa [List.take_of_length_le (by simp)] at this
    · have d2 : decide (z < (s.size : Int)) = true := decide_eq_true (by omega)
      have HN := Lib.hid (show ¬ PhraseOk s n from fun h => by have := h.1.1.2; omega)
      clear hz h2
      go_enter Tryz.func47, Tryz.ntmps47
      go_wp2_with fail
      go_ret
      exact ⟨ret_no HN.out, rfl⟩
  · have d1 : decide ((s.size : Int) < 1) = true := decide_eq_true (by omega)
    have HN := Lib.hid (show ¬ PhraseOk s n from fun h => h1 h.1.1.1)
    clear hz h1
    go_enter Tryz.func47, Tryz.ntmps47
    go_wp2_with fail
    go_ret
    exact ⟨ret_no HN.out, rfl⟩
set_option maxHeartbeats 1000000 in
theorem refCode_any (s : ByteArray) (hs : s.size ≤ 9223372036854775807) (w : World) : Calls Tryz.prog 65 #[.string s] w fun e w' => e = .returned (.bool (tb (CodeOk s))) ∧ w' = w := by
  go_enter Tryz.func65, Tryz.ntmps65
  go_wp2_with fail
  go_loopw [3] (fun i X => ∃ k : Nat, k ≤ s.size ∧ i = .int .i64 k ∧ X = w ∧ Within 33 126 (s.data.toList.take k)) (fun i _ => s.size - (intOf i).toNat)
  case atStart => exact ⟨0, by omega, rfl, rfl, by unfold Within; simp⟩
  case round =>
    obtain ⟨k, hk, rfl, rfl, hok⟩ := hrel
    have HOK := Lib.hid hok
    clear hok
    by_cases hlt : k < s.size
    · have HC := Lib.hid (byte_at hlt)
      have hlt' : (k : Int) < (s.size : Int) := by omega
      by_cases hc1 : 33 ≤ s[k].toNat
      · have hc1' : decide ((s[k].toNat : Int) < 33) = false := decide_eq_false (by omega)
        by_cases hc2 : s[k].toNat ≤ 126
        · have hc2' : decide (126 < (s[k].toNat : Int)) = false := decide_eq_false (by omega)
          have HCC := Lib.hid (And.intro hc1 hc2)
          clear hc1 hc2
          go_wp2_with fail
          go_roundw
          case rel => exact ⟨k + 1, by omega, by go_num, trivial, (all_take_iff HC.out).2 ⟨HOK.out, HCC.out⟩⟩
          case measure => simp [intOf]; omega
        · have hc2' : decide (126 < (s[k].toNat : Int)) = true := decide_eq_true (by omega)
          have HCC : Hid (¬ s[k].toNat ≤ 126) := Lib.hid hc2
          clear hc1 hc2
          go_wp2_with fail
          go_ret
          exact ⟨ret_no (fun h => HCC.out (h.2 _ (List.mem_of_getElem? HC.out)).2), rfl⟩
      · have hc1' : decide ((s[k].toNat : Int) < 33) = true := decide_eq_true (by omega)
        have HCC : Hid (¬ 33 ≤ s[k].toNat) := Lib.hid hc1
        clear hc1
        go_wp2_with fail
        go_ret
        exact ⟨ret_no (fun h => HCC.out (h.2 _ (List.mem_of_getElem? HC.out)).1), rfl⟩
    · have hkk : k = s.size := by omega
      subst hkk
      have HW : Hid (Within 33 126 s.data.toList) := Lib.hid (by
        have := HOK.out
        rwa [List.take_of_length_le (by simp)] at this)
      clear HOK hlt hk
      by_cases h1 : 1 ≤ s.size
      · have d1 : decide (1 ≤ (s.size : Int)) = true := decide_eq_true (by omega)
        by_cases h2 : s.size ≤ 40
        · have d2 : decide ((s.size : Int) ≤ 40) = true := decide_eq_true (by omega)
          have HY := Lib.hid (show CodeOk s from ⟨⟨h1, h2⟩, HW.out⟩)
          clear h1 h2
          go_wp2_with fail
          go_ret
          exact ⟨ret_yes HY.out, rfl⟩
        · have d2 : decide ((s.size : Int) ≤ 40) = false := decide_eq_false (by omega)
          have HN := Lib.hid (show ¬ CodeOk s from fun h => h2 h.1.2)
          clear h1 h2
          go_wp2_with fail
          go_ret
          exact ⟨ret_no HN.out, rfl⟩
      · have d1 : decide (1 ≤ (s.size : Int)) = false := decide_eq_false (by omega)
        have HN := Lib.hid (show ¬ CodeOk s from fun h => h1 h.1.1)
        clear h1
        go_wp2_with fail
        go_ret
        exact ⟨ret_no HN.out, rfl⟩
set_option maxHeartbeats 1000000 in
theorem word_any (s : ByteArray) (hs : s.size ≤ 9223372036854775807) (w : World) : Calls Tryz.prog 27 #[.string s, .int .i64 40] w fun e w' => e = .returned (.bool (tb (NameOk s))) ∧ w' = w := by
  go_enter Tryz.func27, Tryz.ntmps27
  go_wp2_with fail
  go_loopw [5] (fun i X => ∃ k : Nat, k ≤ s.size ∧ i = .int .i64 k ∧ X = w ∧ ∀ b ∈ s.data.toList.take k, NameByte b) (fun i _ => s.size - (intOf i).toNat)
  case atStart => exact ⟨0, by omega, rfl, rfl, by simp⟩
  case round =>
    obtain ⟨k, hk, rfl, rfl, hok⟩ := hrel
    have HOK := Lib.hid hok
    clear hok
    by_cases hlt : k < s.size
    · have HC := Lib.hid (byte_at hlt)
      have hlt' : (k : Int) < (s.size : Int) := by omega
      by_cases c1 : 97 ≤ s[k].toNat
      · have c1' : decide (97 ≤ (s[k].toNat : Int)) = true := decide_eq_true (by omega)
        have c3' : decide (48 ≤ (s[k].toNat : Int)) = true := decide_eq_true (by omega)
        have c4' : decide ((s[k].toNat : Int) ≤ 57) = false := decide_eq_false (by omega)
        have c5' : ((s[k].toNat : Int) == 45) = false := by simp; omega
        by_cases c2 : s[k].toNat ≤ 122
        · have c2' : decide ((s[k].toNat : Int) ≤ 122) = true := decide_eq_true (by omega)
          have HB := Lib.hid (show NameByte s[k] from .inl ⟨by omega, c2⟩)
          clear c1 c2
          go_wp2_with fail
          go_roundw
          case rel => exact ⟨k + 1, by omega, by go_num, trivial, (all_take_iff HC.out).2 ⟨HOK.out, HB.out⟩⟩
          case measure => simp [intOf]; omega
        · have c2' : decide ((s[k].toNat : Int) ≤ 122) = false := decide_eq_false (by omega)
          have HB := Lib.hid (show ¬ NameByte s[k] from fun h => by unfold NameByte at h; omega)
          clear c1 c2
          go_wp2_with fail
          go_ret
          exact ⟨ret_no (fun h => HB.out (h.2 _ (List.mem_of_getElem? HC.out))), rfl⟩
      · have c1' : decide (97 ≤ (s[k].toNat : Int)) = false := decide_eq_false (by omega)
        by_cases c3 : 48 ≤ s[k].toNat
        · have c3' : decide (48 ≤ (s[k].toNat : Int)) = true := decide_eq_true (by omega)
          have c5' : ((s[k].toNat : Int) == 45) = false := by simp; omega
          by_cases c4 : s[k].toNat ≤ 57
          · have c4' : decide ((s[k].toNat : Int) ≤ 57) = true := decide_eq_true (by omega)
            have HB := Lib.hid (show NameByte s[k] from .inr (.inl ⟨by omega, c4⟩))
            clear c1 c3 c4
            go_wp2_with fail
            go_roundw
            case rel => exact ⟨k + 1, by omega, by go_num, trivial, (all_take_iff HC.out).2 ⟨HOK.out, HB.out⟩⟩
            case measure => simp [intOf]; omega
          · have c4' : decide ((s[k].toNat : Int) ≤ 57) = false := decide_eq_false (by omega)
            have HB := Lib.hid (show ¬ NameByte s[k] from fun h => by unfold NameByte at h; omega)
            clear c1 c3 c4
            go_wp2_with fail
            go_ret
            exact ⟨ret_no (fun h => HB.out (h.2 _ (List.mem_of_getElem? HC.out))), rfl⟩
        · have c3' : decide (48 ≤ (s[k].toNat : Int)) = false := decide_eq_false (by omega)
          by_cases c5 : s[k].toNat = 45
          · have c5' : ((s[k].toNat : Int) == 45) = true := by simp; omega
            have HB := Lib.hid (show NameByte s[k] from .inr (.inr c5))
            clear c1 c3 c5
            go_wp2_with fail
            go_roundw
            case rel => exact ⟨k + 1, by omega, by go_num, trivial, (all_take_iff HC.out).2 ⟨HOK.out, HB.out⟩⟩
            case measure => simp [intOf]; omega
          · have c5' : ((s[k].toNat : Int) == 45) = false := by simp; omega
            have HB := Lib.hid (show ¬ NameByte s[k] from fun h => by unfold NameByte at h; omega)
            clear c1 c3 c5
            go_wp2_with fail
            go_ret
            exact ⟨ret_no (fun h => HB.out (h.2 _ (List.mem_of_getElem? HC.out))), rfl⟩
    · have hkk : k = s.size := by omega
      subst hkk
      have HW : Hid (∀ b ∈ s.data.toList, NameByte b) := Lib.hid (by
        have := HOK.out
        rwa [List.take_of_length_le (by simp)] at this)
      clear HOK hlt hk
      by_cases h1 : 1 ≤ s.size
      · have d1 : decide (1 ≤ (s.size : Int)) = true := decide_eq_true (by omega)
        by_cases h2 : s.size ≤ 40
        · have d2 : decide ((s.size : Int) ≤ 40) = true := decide_eq_true (by omega)
          have HY := Lib.hid (show NameOk s from ⟨⟨h1, h2⟩, HW.out⟩)
          clear h1 h2
          go_wp2_with fail
          go_ret
          exact ⟨ret_yes HY.out, rfl⟩
        · have d2 : decide ((s.size : Int) ≤ 40) = false := decide_eq_false (by omega)
          have HN := Lib.hid (show ¬ NameOk s from fun h => h2 h.1.2)
          clear h1 h2
          go_wp2_with fail
          go_ret
          exact ⟨ret_no HN.out, rfl⟩
      · have d1 : decide (1 ≤ (s.size : Int)) = false := decide_eq_false (by omega)
        have HN := Lib.hid (show ¬ NameOk s from fun h => h1 h.1.1)
        clear h1
        go_wp2_with fail
        go_ret
        exact ⟨ret_no HN.out, rfl⟩
set_option maxHeartbeats 2000000 in
theorem answer_any (a : Ans) (n : Int) (hcs : a.code.size ≤ 9223372036854775807) (w : World) : Calls Tryz.prog 46 #[.agg #[.string a.text, .int .i64 a.next, .int .i64 a.urg, .string a.code], .int .i64 n] w fun e w' => e = .returned (.bool (tb (AnsOk n a))) ∧ Below w.heap.size w w' := by
  obtain ⟨t, nx, u, c⟩ := a
  dsimp only at hcs ⊢
  have HB := Lib.hid (below_new w (.cells #[.string t, .int .i64 nx, .int .i64 u, .string c] 45))
  obtain ⟨f0, f1, f2, f3⟩ := fresh4 w (.string t) (.int .i64 nx) (.int .i64 u) (.string c) 45
  obtain ⟨W1, hW1⟩ : ∃ W1, W1 = w.alloc (.cells #[.string t, .int .i64 nx, .int .i64 u, .string c] 45) := ⟨_, rfl⟩
  rw [← hW1] at f0 f1 f2 f3 HB
  by_cases hp : PhraseOk t 100
  · have HP := Lib.hid (fun X => phrase_any t 100 (by omega) 100 rfl X)
    rw [tb_true hp] at HP
    have HPP := Lib.hid hp
    clear hp
    by_cases hn : nx = -1
    · have HNN := Lib.hid hn
      have en : (nx == -1) = true := by rw [hn]; rfl
      have HC := Lib.hid (fun X => refCode_any c hcs X)
      clear hn
      by_cases hu : UrgOk u
      · have u1 : decide (1 ≤ u) = true := decide_eq_true hu.1
        have u2 : decide (u ≤ 5) = true := decide_eq_true hu.2
        by_cases hc : CodeOk c
        · rw [tb_true hc] at HC
          have HY := Lib.hid (show AnsOk n ⟨t, nx, u, c⟩ from ⟨HPP.out, .inl ⟨HNN.out, hu, hc⟩⟩)
          clear hc hu
          go_enter Tryz.func46, Tryz.ntmps46
          go_wp2_with fail
          rw [← hW1]
          clear hW1
          refine (HP.out _).mono ?_
          rintro e w' ⟨rfl, rfl⟩
          go_wp2_with fail
          refine (HC.out _).mono ?_
          rintro e w' ⟨rfl, rfl⟩
          go_wp2_with fail
          go_ret
          exact ⟨ret_yes HY.out, HB.out⟩
        · rw [tb_false hc] at HC
          have HN := Lib.hid (show ¬ AnsOk n ⟨t, nx, u, c⟩ from fun h => by
            have e := HNN.out
            rcases h.2 with h | h
            · exact hc h.2.2
            · have := h.1.1; dsimp only at this; omega)
          clear hc hu
          go_enter Tryz.func46, Tryz.ntmps46
          go_wp2_with fail
          rw [← hW1]
          clear hW1
          refine (HP.out _).mono ?_
          rintro e w' ⟨rfl, rfl⟩
          go_wp2_with fail
          refine (HC.out _).mono ?_
          rintro e w' ⟨rfl, rfl⟩
          go_wp2_with fail
          go_ret
          exact ⟨ret_no HN.out, HB.out⟩
      · have u3 : (decide (1 ≤ u) && decide (u ≤ 5)) = false := by rw [Bool.and_eq_false_iff]; by_cases q : 1 ≤ u; exact .inr (decide_eq_false (fun r => hu ⟨q, r⟩)); exact .inl (decide_eq_false q)
        have HN := Lib.hid (show ¬ AnsOk n ⟨t, nx, u, c⟩ from fun h => by
          have e := HNN.out
          rcases h.2 with h | h
          · exact hu h.2.1
          · have := h.1.1; dsimp only at this; omega)
        by_cases q : 1 ≤ u
        · have u1 : decide (1 ≤ u) = true := decide_eq_true q
          have u2 : decide (u ≤ 5) = false := decide_eq_false (fun r => hu ⟨q, r⟩)
          clear hu u3 q
          go_enter Tryz.func46, Tryz.ntmps46
          go_wp2_with fail
          rw [← hW1]
          clear hW1
          refine (HP.out _).mono ?_
          rintro e w' ⟨rfl, rfl⟩
          go_wp2_with fail
          go_ret
          exact ⟨ret_no HN.out, HB.out⟩
        · have u1 : decide (1 ≤ u) = false := decide_eq_false q
          clear hu u3 q
          go_enter Tryz.func46, Tryz.ntmps46
          go_wp2_with fail
          rw [← hW1]
          clear hW1
          refine (HP.out _).mono ?_
          rintro e w' ⟨rfl, rfl⟩
          go_wp2_with fail
          go_ret
          exact ⟨ret_no HN.out, HB.out⟩
    · have en : (nx == -1) = false := beq_eq_false_iff_ne.2 hn
      by_cases h : (0 ≤ nx ∧ nx < n) ∧ u = 0 ∧ c.size = 0
      · have HY := Lib.hid (show AnsOk n ⟨t, nx, u, c⟩ from ⟨HPP.out, .inr h⟩)
        obtain ⟨⟨h1, h2⟩, h3, h4⟩ := h
        have g1 : decide (0 ≤ nx) = true := decide_eq_true h1
        have g2 : decide (nx < n) = true := decide_eq_true h2
        have g3 : (u == 0) = true := beq_iff_eq.2 h3
        have g4 := emp_yes h4
        clear h1 h2 h3 h4 hn
        go_enter Tryz.func46, Tryz.ntmps46
        go_wp2_with fail
        rw [← hW1]
        clear hW1
        refine (HP.out _).mono ?_
        rintro e w' ⟨rfl, rfl⟩
        go_wp2_with fail
        go_ret
        exact ⟨ret_yes HY.out, HB.out⟩
      · have HN := Lib.hid (show ¬ AnsOk n ⟨t, nx, u, c⟩ from fun q => by
          rcases q.2 with q | q
          · exact hn q.1
          · exact h q)
        by_cases h1 : 0 ≤ nx
        · have g1 : decide (0 ≤ nx) = true := decide_eq_true h1
          by_cases h2 : nx < n
          · have g2 : decide (nx < n) = true := decide_eq_true h2
            by_cases h3 : u = 0
            · have g3 : (u == 0) = true := beq_iff_eq.2 h3
              have g4 : c.toList.isEmpty = false := emp_no (by
                rcases Nat.eq_zero_or_pos c.size with q | q
                · exact absurd ⟨⟨h1, h2⟩, h3, q⟩ h
                · exact q)
              clear h1 h2 h3 hn h
              go_enter Tryz.func46, Tryz.ntmps46
              go_wp2_with fail
              rw [← hW1]
              clear hW1
              refine (HP.out _).mono ?_
              rintro e w' ⟨rfl, rfl⟩
              go_wp2_with fail
              go_ret
              exact ⟨ret_no HN.out, HB.out⟩
            · have g3 : (u == 0) = false := beq_eq_false_iff_ne.2 h3
              clear h1 h2 h3 hn h
              go_enter Tryz.func46, Tryz.ntmps46
              go_wp2_with fail
              rw [← hW1]
              clear hW1
              refine (HP.out _).mono ?_
              rintro e w' ⟨rfl, rfl⟩
              go_wp2_with fail
              go_ret
              exact ⟨ret_no HN.out, HB.out⟩
          · have g2 : decide (nx < n) = false := decide_eq_false h2
            clear h1 h2 hn h
            go_enter Tryz.func46, Tryz.ntmps46
            go_wp2_with fail
            rw [← hW1]
            clear hW1
            refine (HP.out _).mono ?_
            rintro e w' ⟨rfl, rfl⟩
            go_wp2_with fail
            go_ret
            exact ⟨ret_no HN.out, HB.out⟩
        · have g1 : decide (0 ≤ nx) = false := decide_eq_false h1
          clear h1 hn h
          go_enter Tryz.func46, Tryz.ntmps46
          go_wp2_with fail
          rw [← hW1]
          clear hW1
          refine (HP.out _).mono ?_
          rintro e w' ⟨rfl, rfl⟩
          go_wp2_with fail
          go_ret
          exact ⟨ret_no HN.out, HB.out⟩
  · have HP := Lib.hid (fun X => phrase_any t 100 (by omega) 100 rfl X)
    rw [tb_false hp] at HP
    have HN := Lib.hid (show ¬ AnsOk n ⟨t, nx, u, c⟩ from fun h => hp h.1)
    clear hp
    go_enter Tryz.func46, Tryz.ntmps46
    go_wp2_with fail
    rw [← hW1]
    clear hW1
    refine (HP.out _).mono ?_
    rintro e w' ⟨rfl, rfl⟩
    go_wp2_with fail
    go_ret
    exact ⟨ret_no HN.out, HB.out⟩
-- END OF answer
end Go.Proofs.YtbbklideciappaaGreatDoor
