/-
  samaritanref02: Same, All, Great.
-/
import Derived.Test.YtalfjcamjdmdjaaDoorRefA
namespace Go.Proofs.YtalfjcamjdmdjaaDoor
open Go.RowKit

theorem take_ne {xs ys : List Int} {k : Nat} {a b : Int} (ha : xs[k]? = some a) (hb : ys[k]? = some b) (h : a ≠ b) : xs ≠ ys := fun e => by
  rw [e, hb] at ha
  injection ha with ha
  exact h ha.symm
set_option maxHeartbeats 1000000 in
theorem refSame_any (A A' : Option Addr) (c c' : Nat) (xs ys : List Int) (w : World) (h : Sl w w.heap.size A (xs.map (Value.int .i64))) (h' : Sl w w.heap.size A' (ys.map (Value.int .i64))) (hl : xs.length ≤ 1099511627) (hl' : ys.length ≤ 1099511627) :
    Calls Tryd.prog 15 #[.slice A xs.length c, .slice A' ys.length c'] w fun e w' => e = .returned (.bool (decide (xs = ys))) ∧ Below w.heap.size w w' := by
  have HH := Lib.hid (And.intro h h')
  obtain ⟨m, hm⟩ : ∃ m, m = xs.length := ⟨_, rfl⟩
  obtain ⟨n, hn⟩ : ∃ n, n = ys.length := ⟨_, rfl⟩
  have HM := Lib.hid (And.intro hm hn)
  rw [← hm] at hl ⊢
  rw [← hn] at hl' ⊢
  clear h h' hm hn
  by_cases hmn : m = n
  · subst hmn
    go_enter Tryd.func15, Tryd.ntmps15
    go_wp2_with fail
    go_loopw [5, 13] (fun _ iv wr => ∃ k : Nat, k ≤ m ∧ iv = .int .i64 k ∧ Below w.heap.size w wr ∧ xs.take k = ys.take k) (fun _ i _ => m - (intOf i).toNat)
    case atStart => exact ⟨0, Nat.zero_le _, rfl, Below.refl _ _, rfl⟩
    case round =>
      obtain ⟨k, hk, rfl, hb, he⟩ := hrel
      have HB := Lib.hid hb
      have HE := Lib.hid he
      by_cases hlt : k < m
      · obtain ⟨a, ha⟩ : ∃ a, xs[k]? = some a := ⟨xs[k]'(by have := HM.out.1; omega), by simp⟩
        obtain ⟨z, hz⟩ : ∃ z, ys[k]? = some z := ⟨ys[k]'(by have := HM.out.2; omega), by simp⟩
        obtain ⟨b, o, rfl, _, q⟩ := (HH.out.1.below hb).int ha
        obtain ⟨b', o', rfl, _, q'⟩ := (HH.out.2.below hb).int hz
        have hkj : (k : Int) < (m : Int) := by omega
        have HAZ := Lib.hid (And.intro ha hz)
        clear hb he ha hz
        by_cases haz : a = z
        · subst haz
          go_wp2_with fail
          go_quiet (fail)
          go_wp2_with fail
          go_roundw
          case rel =>
            refine ⟨k + 1, by omega, by go_num, below_drewN HB.out _, ?_⟩
            rw [List.take_succ_eq_append_getElem (List.getElem?_eq_some_iff.1 HAZ.out.1).1, List.take_succ_eq_append_getElem (List.getElem?_eq_some_iff.1 HAZ.out.2).1, (List.getElem?_eq_some_iff.1 HAZ.out.1).2, (List.getElem?_eq_some_iff.1 HAZ.out.2).2, HE.out]
          case measure => simp [intOf]; omega
        · go_wp2_with fail
          go_quiet (fail)
          go_wp2_with fail
          go_ret
          exact ⟨ret_bool (decide_eq_false (take_ne HAZ.out.1 HAZ.out.2 haz)).symm, below_drewN HB.out _⟩
      · have hkk : k = m := by omega
        subst hkk
        clear hb he
        go_wp2_with fail
        go_ret
        refine ⟨ret_bool (decide_eq_true ?_).symm, HB.out⟩
        have := HE.out
        rwa [List.take_of_length_le (by have := HM.out.1; omega), List.take_of_length_le (by have := HM.out.2; omega)] at this
  · have hne : ¬ (m : Int) = (n : Int) := by omega
    go_enter Tryd.func15, Tryd.ntmps15
    go_wp2_with fail
    go_ret
    exact ⟨ret_bool (decide_eq_false (fun e => hmn (by rw [HM.out.1, HM.out.2, e]))).symm, Below.refl _ _⟩
theorem refGreat_any (A : Option Addr) (n c : Nat) (w : World) : Calls Tryd.prog 10 #[.slice A n c] w fun e w' => e = .returned (.bool (decide (60 < n))) ∧ w' = w := by
  by_cases h : 60 < n
  · have h' : (60 : Int) < (n : Int) := by omega
    go_enter Tryd.func10, Tryd.ntmps10
    go_wp2_with fail
    go_ret
    exact ⟨ret_bool (by first | (simp; done) | (simp; omega)), rfl⟩
  · have h' : ¬ (60 : Int) < (n : Int) := by omega
    go_enter Tryd.func10, Tryd.ntmps10
    go_wp2_with fail
    go_ret
    exact ⟨ret_bool (by first | (simp; done) | (simp; omega)), rfl⟩
end Go.Proofs.YtalfjcamjdmdjaaDoor
