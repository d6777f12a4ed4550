/-
  samaritanref09.never and Time.
-/
import Derived.Test.YtpomakmmjbimfaaTravel
namespace Go.Proofs.Ytpomakmmjbimfaa
open Go.RowKit Go.Shelf Go.Maps

theorem never_any (w : World) : Calls Try.prog 43 #[] w fun e w' => e = .returned (.int .i64 4611686018427387904) ∧ w = w' := by
  go_enter Try.func43, Try.ntmps43
  go_wp2_with fail
  go_ret
  exact ⟨rfl, rfl⟩

set_option maxRecDepth 100000 in
theorem refTime_any (A : Option Addr) (c : Nat) (ts : List Int) (i : Nat) (w : World) (B : Nat) (hs : Sl w B A (ts.map (Value.int .i64))) :
    Calls Try.prog 46 #[.slice A ts.length c, .int .i64 (i : Int)] w fun e w' => e = .returned (.int .i64 (wAt ts i)) ∧ w = w' := by
  have HW : Hid (wAt ts i = match ts[i]? with | some z => if 1 ≤ z ∧ z ≤ 1048576 then z else 4611686018427387904 | none => 4611686018427387904) := rfl
  generalize wAt ts i = r at *
  by_cases hlt : i < ts.length
  · obtain ⟨z, hz⟩ : ∃ z, ts[i]? = some z := ⟨ts[i], by simp⟩
    obtain ⟨b, o, rfl, hb, hc⟩ := hs.int hz
    have HZ := Lib.hid hz
    have hij : (i : Int) < (ts.length : Int) := by omega
    have e1 : decide ((ts.length : Int) ≤ (i : Int)) = false := decide_eq_false (by omega)
    have e1' : decide (ts.length ≤ i) = false := decide_eq_false (by omega)
    clear hz hs
    by_cases h1 : z < 1
    · have e2 : decide (z < 1) = true := decide_eq_true h1
      go_enter Try.func46, Try.ntmps46
      go_wp2_with fail
      refine (never_any w).mono ?_
      rintro e w' ⟨rfl, rfl⟩
      go_wp2_with fail
      go_ret
      refine ⟨?_, rfl⟩
      rw [HW.out, HZ.out]
      simp only
      rw [if_neg (by omega)]
      rfl
    · have e2 : decide (z < 1) = false := decide_eq_false h1
      by_cases h2 : 1048576 < z
      · have e3 : decide (1048576 < z) = true := decide_eq_true h2
        go_enter Try.func46, Try.ntmps46
        go_wp2_with fail
        refine (never_any w).mono ?_
        rintro e w' ⟨rfl, rfl⟩
        go_wp2_with fail
        go_ret
        refine ⟨?_, rfl⟩
        rw [HW.out, HZ.out]
        simp only
        rw [if_neg (by omega)]
        rfl
      · have e3 : decide (1048576 < z) = false := decide_eq_false h2
        go_enter Try.func46, Try.ntmps46
        go_wp2_with fail
        go_ret
        refine ⟨?_, rfl⟩
        rw [HW.out, HZ.out]
        simp only
        rw [if_pos (by omega)]
        rfl
  · have e1 : decide ((ts.length : Int) ≤ (i : Int)) = true := decide_eq_true (by omega)
    have e1' : decide (ts.length ≤ i) = true := decide_eq_true (by omega)
    have HL := Lib.hid hlt
    clear hs hlt
    go_enter Try.func46, Try.ntmps46
    go_wp2_with fail
    refine (never_any w).mono ?_
    rintro e w' ⟨rfl, rfl⟩
    go_wp2_with fail
    go_ret
    refine ⟨?_, rfl⟩
    rw [HW.out, List.getElem?_eq_none (by have := HL.out; omega)]
    rfl
end Go.Proofs.Ytpomakmmjbimfaa
