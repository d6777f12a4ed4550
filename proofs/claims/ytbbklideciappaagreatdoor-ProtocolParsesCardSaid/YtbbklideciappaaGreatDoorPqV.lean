/-
  protocol: consists, isPhrase, isCode, isName, isVersion, isUrgency.
-/
import Derived.Test.YtbbklideciappaaGreatDoorPqA
import Derived.Test.YtbbklideciappaaGreatDoorProg
import Derived.Deep.QuietTactic
import Derived.BigQuiet
import Derived.IntWalk
namespace Go.Proofs.YtbbklideciappaaGreatDoor
open Go.RowKit

theorem isVersion_any (z : Int) (w : World) : Calls Tryz.prog 25 #[.int .i64 z] w fun e w' => e = .returned (.bool (tb (VerOk z))) ∧ w' = w := by
  by_cases h0 : 1 ≤ z
  · by_cases h1 : z ≤ 1048576
    · go_enter Tryz.func25, Tryz.ntmps25
      go_wp2_with fail
      go_ret
      exact ⟨ret_yes ⟨h0, h1⟩, rfl⟩
    · have HN := Lib.hid (show ¬ VerOk z from fun h => h1 h.2)
      go_enter Tryz.func25, Tryz.ntmps25
      go_wp2_with fail
      go_ret
      exact ⟨ret_no HN.out, rfl⟩
  · have HN := Lib.hid (show ¬ VerOk z from fun h => h0 h.1)
    go_enter Tryz.func25, Tryz.ntmps25
    go_wp2_with fail
    go_ret
    exact ⟨ret_no HN.out, rfl⟩
def UrgOk (z : Int) : Prop := 1 ≤ z ∧ z ≤ 5
theorem isUrgency_any (z : Int) (w : World) : Calls Tryz.prog 63 #[.int .i64 z] w fun e w' => e = .returned (.bool (tb (UrgOk z))) ∧ w' = w := by
  by_cases h0 : 1 ≤ z
  · by_cases h1 : z ≤ 5
    · go_enter Tryz.func63, Tryz.ntmps63
      go_wp2_with fail
      go_ret
      exact ⟨ret_yes ⟨h0, h1⟩, rfl⟩
    · have HN := Lib.hid (show ¬ UrgOk z from fun h => h1 h.2)
      go_enter Tryz.func63, Tryz.ntmps63
      go_wp2_with fail
      go_ret
      exact ⟨ret_no HN.out, rfl⟩
  · have HN := Lib.hid (show ¬ UrgOk z from fun h => h0 h.1)
    go_enter Tryz.func63, Tryz.ntmps63
    go_wp2_with fail
    go_ret
    exact ⟨ret_no HN.out, rfl⟩
theorem emp_yes {s : ByteArray} (h : s.size = 0) : s.toList.isEmpty = true := by
  rw [ByteArray.toList_eq, List.isEmpty_iff]
  exact List.eq_nil_of_length_eq_zero (by simpa using h)
theorem emp_no {s : ByteArray} (h : 1 ≤ s.size) : s.toList.isEmpty = false := by
  rw [ByteArray.toList_eq]
  cases hs : s.data.toList with
  | nil =>
    have : s.data.toList.length = 0 := by rw [hs]; rfl
    have : s.size = 0 := by simpa using this
    omega
  | cons a l => rfl
/-- the bytes lie from lo to hi, and the length is right. -/
def Cons (s : ByteArray) (n lo hi : Int) : Prop := (1 ≤ (s.size : Int) ∧ (s.size : Int) ≤ n) ∧ ∀ b ∈ s.data.toList, lo ≤ (b.toNat : Int) ∧ (b.toNat : Int) ≤ hi
set_option maxHeartbeats 1000000 in
theorem consists_any (s : ByteArray) (n lo hi : Int) (hn9 : n ≤ 1000) (w : World) : Calls Tryz.prog 62 #[.string s, .int .i64 n, .int .u8 lo, .int .u8 hi] w fun e w' => e = .returned (.bool (tb (Cons s n lo hi))) ∧ w' = w := by
  by_cases h1 : 1 ≤ s.size
  · have he := emp_no h1
    by_cases hn : (s.size : Int) ≤ n
    · have d2 : ¬ (n < (s.size : Int)) := by omega
      have H1 := Lib.hid (And.intro h1 hn)
      clear h1
      go_enter Tryz.func62, Tryz.ntmps62
      go_wp2_with fail
      go_loopw [20] (fun i X => ∃ k : Nat, k ≤ s.size ∧ i = .int .i64 k ∧ X = w ∧ ∀ b ∈ s.data.toList.take k, lo ≤ (b.toNat : Int) ∧ (b.toNat : Int) ≤ hi) (fun i _ => s.size - (intOf i).toNat)
      case atStart => exact ⟨0, by omega, rfl, rfl, by simp⟩
      case round =>
        obtain ⟨k, hk, rfl, rfl, hok⟩ := hrel
        have HOK := Lib.hid hok
        clear hok
        by_cases hlt : k < s.size
        · have HC := Lib.hid (byte_at hlt)
          have hlt' : (k : Int) < (s.size : Int) := by omega
          by_cases hc1 : lo ≤ (s[k].toNat : Int)
          · have hc1' : decide ((s[k].toNat : Int) < lo) = false := decide_eq_false (by omega)
            by_cases hc2 : (s[k].toNat : Int) ≤ hi
            · have hc2' : decide (hi < (s[k].toNat : Int)) = false := decide_eq_false (by omega)
              have HCC := Lib.hid (And.intro hc1 hc2)
              clear hc1 hc2
              go_wp2_with fail
              go_roundw
              case rel => exact ⟨k + 1, by omega, by go_num, trivial, (all_take_iff HC.out).2 ⟨HOK.out, HCC.out⟩⟩
              case measure => simp [intOf]; omega
            · have hc2' : decide (hi < (s[k].toNat : Int)) = true := decide_eq_true (by omega)
              have HCC : Hid (¬ (s[k].toNat : Int) ≤ hi) := Lib.hid hc2
              clear hc1 hc2
              go_wp2_with fail
              go_ret
              exact ⟨ret_no (fun h => by have := HCC.out; have := (h.2 _ (List.mem_of_getElem? HC.out)).2; omega), rfl⟩
          · have hc1' : decide ((s[k].toNat : Int) < lo) = true := decide_eq_true (by omega)
            have HCC : Hid (¬ lo ≤ (s[k].toNat : Int)) := Lib.hid hc1
            clear hc1
            go_wp2_with fail
            go_ret
            exact ⟨ret_no (fun h => by have := HCC.out; have := (h.2 _ (List.mem_of_getElem? HC.out)).1; omega), rfl⟩
        · have hkk : k = s.size := by omega
          subst hkk
          go_wp2_with fail
          go_ret
          refine ⟨ret_yes ⟨⟨by have := H1.out.1; omega, H1.out.2⟩, ?_⟩, rfl⟩
          have := HOK.out
          rwa [List.take_of_length_le (by simp)] at this
    · have d2 : n < (s.size : Int) := by omega
      go_enter Tryz.func62, Tryz.ntmps62
      go_wp2_with fail
      go_ret
      exact ⟨ret_no (fun h => by have := h.1.2; omega), rfl⟩
  · have he := emp_yes (s := s) (by omega)
    go_enter Tryz.func62, Tryz.ntmps62
    go_wp2_with fail
    go_ret
    exact ⟨ret_no (fun h => h1 (by have := h.1.1; omega)), rfl⟩
theorem cons_code {s : ByteArray} : Cons s 40 33 126 ↔ CodeOk s := by
  unfold Cons CodeOk Within
  refine ⟨fun h => ⟨⟨by omega, by omega⟩, fun b hb => by have := h.2 b hb; omega⟩, fun h => ⟨⟨by omega, by omega⟩, fun b hb => by have := h.2 b hb; omega⟩⟩
theorem isCode_any (s : ByteArray) (w : World) : Calls Tryz.prog 64 #[.string s] w fun e w' => e = .returned (.bool (tb (CodeOk s))) ∧ w' = w := by
  have HC := Lib.hid (consists_any s 40 33 126 (by omega) w)
  rw [tb_iff cons_code] at HC
  go_enter Tryz.func64, Tryz.ntmps64
  go_wp2_with fail
  refine HC.out.mono ?_
  rintro e w' ⟨rfl, rfl⟩
  go_wp2_with fail
  go_ret
  exact ⟨rfl, rfl⟩
/-- a phrase, cell by cell. -/
theorem phrase_iff {s : ByteArray} {n : Nat} {m : Nat} (hm : m + 1 = s.size) (h0 : 0 < s.size) (h1 : m < s.size) : PhraseOk s n ↔ Cons s n 32 126 ∧ s[0].toNat ≠ 32 ∧ s[m].toNat ≠ 32 := by
  have e0 : s.data.toList[0]? = some (s[0]'(by omega)) := byte_at (by omega)
  have e1 : s.data.toList[s.size - 1]? = some (s[m]'(by omega)) := by
    rw [show s.size - 1 = m by omega]
    exact byte_at (by omega)
  have q : ∀ b : UInt8, some b ≠ some 32 ↔ b.toNat ≠ 32 := fun b => by
    rw [Ne, Option.some.injEq, ← UInt8.toNat_inj]
    exact Iff.rfl
  unfold PhraseOk Cons Within
  rw [e0, e1, q, q]
  refine ⟨fun h => ⟨⟨⟨by omega, by omega⟩, fun b hb => by have := h.1.2 b hb; omega⟩, h.2⟩, fun h => ⟨⟨⟨by omega, by omega⟩, fun b hb => by have := h.1.2 b hb; omega⟩, h.2⟩⟩
set_option maxHeartbeats 1000000 in
theorem isPhrase_any (s : ByteArray) (n : Nat) (hn9 : n ≤ 1000) (z : Int) (hz : z = n) (w : World) : Calls Tryz.prog 44 #[.string s, .int .i64 z] w fun e w' => e = .returned (.bool (tb (PhraseOk s n))) ∧ w' = w := by
  by_cases hc : Cons s z 32 126
  · have HC := Lib.hid (fun X => consists_any s z 32 126 (by omega) X)
    rw [tb_true hc] at HC
    have h1 := hc.1.1
    have h2 := hc.1.2
    obtain ⟨m, hm⟩ : ∃ m, m + 1 = s.size := ⟨s.size - 1, by omega⟩
    have hw1 : IntKind.i64.wrap ((s.size : Int) - 1) = (m : Int) := by
      rw [IntWalk.i64_in _ (by omega)]; omega
    have hm0 : 0 < s.size := by omega
    have hm1 : m < s.size := by omega
    have hm1' : (m : Int) < (s.size : Int) := by omega
    have HP := Lib.hid (phrase_iff (n := n) hm hm0 hm1)
    have HCC := Lib.hid (show Cons s n 32 126 by rw [← hz]; exact hc)
    clear hc hm hz h1 h2
    by_cases h0 : s[0].toNat = 32
    · have d0 : ((s[0].toNat : Int) != 32) = false := by simp; omega
      have HN := Lib.hid (show ¬ PhraseOk s n from fun h => (HP.out.1 h).2.1 h0)
      clear h0
      go_enter Tryz.func44, Tryz.ntmps44
      go_wp2_with fail
      refine (HC.out _).mono ?_
      rintro e w' ⟨rfl, rfl⟩
      go_wp2_with fail
      go_ret
      exact ⟨ret_no HN.out, rfl⟩
    · have d0 : ((s[0].toNat : Int) != 32) = true := by simp; omega
      by_cases h3 : s[m].toNat = 32
      · have d3 : ((s[m].toNat : Int) != 32) = false := by simp; omega
        have HN := Lib.hid (show ¬ PhraseOk s n from fun h => (HP.out.1 h).2.2 h3)
        clear h0 h3
        go_enter Tryz.func44, Tryz.ntmps44
        go_wp2_with fail
        refine (HC.out _).mono ?_
        rintro e w' ⟨rfl, rfl⟩
        go_wp2_with fail
        go_ret
        exact ⟨ret_no HN.out, rfl⟩
      · have d3 : ((s[m].toNat : Int) != 32) = true := by simp; omega
        have HY := Lib.hid (show PhraseOk s n from HP.out.2 ⟨HCC.out, h0, h3⟩)
        clear h0 h3
        go_enter Tryz.func44, Tryz.ntmps44
        go_wp2_with fail
        refine (HC.out _).mono ?_
        rintro e w' ⟨rfl, rfl⟩
        go_wp2_with fail
        go_ret
        exact ⟨ret_yes HY.out, rfl⟩
  · have HC := Lib.hid (fun X => consists_any s z 32 126 (by omega) X)
    rw [tb_false hc] at HC
    have HN := Lib.hid (show ¬ PhraseOk s n from fun h => by
      have h1 := h.1.1.1
      exact hc (by rw [hz]; exact ((phrase_iff (m := s.size - 1) (by omega) (by omega) (by omega)).1 h).1))
    clear hc hz
    go_enter Tryz.func44, Tryz.ntmps44
    go_wp2_with fail
    refine (HC.out _).mono ?_
    rintro e w' ⟨rfl, rfl⟩
    go_wp2_with fail
    go_ret
    exact ⟨ret_no HN.out, rfl⟩
set_option maxHeartbeats 1000000 in
theorem isName_any (s : ByteArray) (w : World) : Calls Tryz.prog 24 #[.string s] w fun e w' => e = .returned (.bool (tb (NameOk s))) ∧ w' = w := by
  by_cases h1 : 1 ≤ s.size
  · have he := emp_no h1
    by_cases hn : s.size ≤ 40
    · have d2 : ¬ ((40 : Int) < (s.size : Int)) := by omega
      go_enter Tryz.func24, Tryz.ntmps24
      go_wp2_with fail
      go_loopw [14] (fun i X => ∃ k : Nat, k ≤ s.size ∧ i = .int .i64 k ∧ X = w ∧ ∀ b ∈ s.data.toList.take k, NameByte b) (fun i _ => s.size - (intOf i).toNat)
      case atStart => exact ⟨0, by omega, rfl, rfl, by simp⟩
      case round =>
        obtain ⟨k, hk, rfl, rfl, hok⟩ := hrel
        have HOK := Lib.hid hok
        clear hok
        by_cases hlt : k < s.size
        · have HC := Lib.hid (byte_at hlt)
          have hlt' : (k : Int) < (s.size : Int) := by omega
          by_cases c1 : s[k].toNat < 97
          · have c1' : decide ((s[k].toNat : Int) < 97) = true := decide_eq_true (by omega)
            by_cases c3 : s[k].toNat < 48
            · have c3' : decide ((s[k].toNat : Int) < 48) = true := decide_eq_true (by omega)
              by_cases c5 : s[k].toNat = 45
              · have c5' : ((s[k].toNat : Int) != 45) = false := by simp; omega
                have HB := Lib.hid (show NameByte s[k] from .inr (.inr c5))
                clear c1 c3 c5
                go_wp2_with fail
                go_roundw
                case rel => exact ⟨k + 1, by omega, by go_num, trivial, (all_take_iff HC.out).2 ⟨HOK.out, HB.out⟩⟩
                case measure => simp [intOf]; omega
              · have c5' : ((s[k].toNat : Int) != 45) = true := by simp; omega
                have HB := Lib.hid (show ¬ NameByte s[k] from fun h => by unfold NameByte at h; omega)
                clear c1 c3 c5
                go_wp2_with fail
                go_ret
                exact ⟨ret_no (fun h => HB.out (h.2 _ (List.mem_of_getElem? HC.out))), rfl⟩
            · have c3' : decide ((s[k].toNat : Int) < 48) = false := decide_eq_false (by omega)
              by_cases c4 : s[k].toNat ≤ 57
              · have c4' : decide ((57 : Int) < (s[k].toNat : Int)) = false := decide_eq_false (by omega)
                have HB := Lib.hid (show NameByte s[k] from .inr (.inl ⟨by omega, c4⟩))
                clear c1 c3 c4
                go_wp2_with fail
                go_roundw
                case rel => exact ⟨k + 1, by omega, by go_num, trivial, (all_take_iff HC.out).2 ⟨HOK.out, HB.out⟩⟩
                case measure => simp [intOf]; omega
              · have c4' : decide ((57 : Int) < (s[k].toNat : Int)) = true := decide_eq_true (by omega)
                have c5' : ((s[k].toNat : Int) != 45) = true := by simp; omega
                have HB := Lib.hid (show ¬ NameByte s[k] from fun h => by unfold NameByte at h; omega)
                clear c1 c3 c4
                go_wp2_with fail
                go_ret
                exact ⟨ret_no (fun h => HB.out (h.2 _ (List.mem_of_getElem? HC.out))), rfl⟩
          · have c1' : decide ((s[k].toNat : Int) < 97) = false := decide_eq_false (by omega)
            have c3' : decide ((s[k].toNat : Int) < 48) = false := decide_eq_false (by omega)
            have c4' : decide ((57 : Int) < (s[k].toNat : Int)) = true := decide_eq_true (by omega)
            have c5' : ((s[k].toNat : Int) != 45) = true := by simp; omega
            by_cases c2 : s[k].toNat ≤ 122
            · have c2' : decide ((122 : Int) < (s[k].toNat : Int)) = false := decide_eq_false (by omega)
              have HB := Lib.hid (show NameByte s[k] from .inl ⟨by omega, c2⟩)
              clear c1 c2
              go_wp2_with fail
              go_roundw
              case rel => exact ⟨k + 1, by omega, by go_num, trivial, (all_take_iff HC.out).2 ⟨HOK.out, HB.out⟩⟩
              case measure => simp [intOf]; omega
            · have c2' : decide ((122 : Int) < (s[k].toNat : Int)) = true := decide_eq_true (by omega)
              have HB := Lib.hid (show ¬ NameByte s[k] from fun h => by unfold NameByte at h; omega)
              clear c1 c2
              go_wp2_with fail
              go_ret
              exact ⟨ret_no (fun h => HB.out (h.2 _ (List.mem_of_getElem? HC.out))), rfl⟩
        · have hkk : k = s.size := by omega
          subst hkk
          go_wp2_with fail
          go_ret
          refine ⟨ret_yes ⟨⟨h1, hn⟩, ?_⟩, rfl⟩
          have := HOK.out
          rwa [List.take_of_length_le (by simp)] at this
    · have d2 : (40 : Int) < (s.size : Int) := by omega
      go_enter Tryz.func24, Tryz.ntmps24
      go_wp2_with fail
      go_ret
      exact ⟨ret_no (fun h => hn h.1.2), rfl⟩
  · have he := emp_yes (s := s) (by omega)
    go_enter Tryz.func24, Tryz.ntmps24
    go_wp2_with fail
    go_ret
    exact ⟨ret_no (fun h => h1 (by have := h.1.1; omega)), rfl⟩
end Go.Proofs.YtbbklideciappaaGreatDoor
