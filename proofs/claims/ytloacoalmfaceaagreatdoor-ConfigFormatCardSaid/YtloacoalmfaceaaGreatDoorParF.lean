/-
  config: the parameters' own functions; validParameters; Validate.
-/
import Derived.Test.YtloacoalmfaceaaGreatDoorPar
import Derived.Shelf.Abstract
namespace Go.Proofs.YtloacoalmfaceaaGreatDoor
open Go.RowKit Go.Shelf

theorem fld_any (cb : Nat) (w : World) : ∀ k, k < 10 → Calls Tryz.prog (parFld k) #[.pointer (some ⟨cb, 0, none⟩)] w fun e w' => e = .returned (.pointer (some ⟨cb, 5 + k, none⟩)) ∧ w' = w := by
  have h0 : Calls Tryz.prog 58 #[.pointer (some ⟨cb, 0, none⟩)] w fun e w' => e = .returned (.pointer (some ⟨cb, 5 + 0, none⟩)) ∧ w' = w := by
    go_enter Tryz.func58, Tryz.ntmps58
    go_wp2_with fail
    go_ret
    exact ⟨rfl, rfl⟩
  have h1 : Calls Tryz.prog 59 #[.pointer (some ⟨cb, 0, none⟩)] w fun e w' => e = .returned (.pointer (some ⟨cb, 5 + 1, none⟩)) ∧ w' = w := by
    go_enter Tryz.func59, Tryz.ntmps59
    go_wp2_with fail
    go_ret
    exact ⟨rfl, rfl⟩
  have h2 : Calls Tryz.prog 60 #[.pointer (some ⟨cb, 0, none⟩)] w fun e w' => e = .returned (.pointer (some ⟨cb, 5 + 2, none⟩)) ∧ w' = w := by
    go_enter Tryz.func60, Tryz.ntmps60
    go_wp2_with fail
    go_ret
    exact ⟨rfl, rfl⟩
  have h3 : Calls Tryz.prog 61 #[.pointer (some ⟨cb, 0, none⟩)] w fun e w' => e = .returned (.pointer (some ⟨cb, 5 + 3, none⟩)) ∧ w' = w := by
    go_enter Tryz.func61, Tryz.ntmps61
    go_wp2_with fail
    go_ret
    exact ⟨rfl, rfl⟩
  have h4 : Calls Tryz.prog 62 #[.pointer (some ⟨cb, 0, none⟩)] w fun e w' => e = .returned (.pointer (some ⟨cb, 5 + 4, none⟩)) ∧ w' = w := by
    go_enter Tryz.func62, Tryz.ntmps62
    go_wp2_with fail
    go_ret
    exact ⟨rfl, rfl⟩
  have h5 : Calls Tryz.prog 63 #[.pointer (some ⟨cb, 0, none⟩)] w fun e w' => e = .returned (.pointer (some ⟨cb, 5 + 5, none⟩)) ∧ w' = w := by
    go_enter Tryz.func63, Tryz.ntmps63
    go_wp2_with fail
    go_ret
    exact ⟨rfl, rfl⟩
  have h6 : Calls Tryz.prog 64 #[.pointer (some ⟨cb, 0, none⟩)] w fun e w' => e = .returned (.pointer (some ⟨cb, 5 + 6, none⟩)) ∧ w' = w := by
    go_enter Tryz.func64, Tryz.ntmps64
    go_wp2_with fail
    go_ret
    exact ⟨rfl, rfl⟩
  have h7 : Calls Tryz.prog 65 #[.pointer (some ⟨cb, 0, none⟩)] w fun e w' => e = .returned (.pointer (some ⟨cb, 5 + 7, none⟩)) ∧ w' = w := by
    go_enter Tryz.func65, Tryz.ntmps65
    go_wp2_with fail
    go_ret
    exact ⟨rfl, rfl⟩
  have h8 : Calls Tryz.prog 67 #[.pointer (some ⟨cb, 0, none⟩)] w fun e w' => e = .returned (.pointer (some ⟨cb, 5 + 8, none⟩)) ∧ w' = w := by
    go_enter Tryz.func67, Tryz.ntmps67
    go_wp2_with fail
    go_ret
    exact ⟨rfl, rfl⟩
  have h9 : Calls Tryz.prog 68 #[.pointer (some ⟨cb, 0, none⟩)] w fun e w' => e = .returned (.pointer (some ⟨cb, 5 + 9, none⟩)) ∧ w' = w := by
    go_enter Tryz.func68, Tryz.ntmps68
    go_wp2_with fail
    go_ret
    exact ⟨rfl, rfl⟩
  exact ten_cases h0 h1 h2 h3 h4 h5 h6 h7 h8 h9
theorem fld_enters : ∀ k, k < 10 → ∀ (args : Array Value) (w : World), (callFunc (parFld k) args).run Tryz.prog w = .ok (.enter (parFld k) args) w := by
  exact ten_cases (enters_of Tryz.func58 (by kernel_rfl) rfl) (enters_of Tryz.func59 (by kernel_rfl) rfl) (enters_of Tryz.func60 (by kernel_rfl) rfl) (enters_of Tryz.func61 (by kernel_rfl) rfl) (enters_of Tryz.func62 (by kernel_rfl) rfl) (enters_of Tryz.func63 (by kernel_rfl) rfl) (enters_of Tryz.func64 (by kernel_rfl) rfl) (enters_of Tryz.func65 (by kernel_rfl) rfl) (enters_of Tryz.func67 (by kernel_rfl) rfl) (enters_of Tryz.func68 (by kernel_rfl) rfl)
set_option maxRecDepth 100000 in
theorem get_any (cb bx : Nat) (w : World) (k : Nat) (hk : k < 10) (z : Int) (hb : w.cell? ⟨bx, 0, none⟩ = some (.func (.func (parFld k)) #[] #[])) (hc : w.cell? ⟨cb, 5 + k, none⟩ = some (.int .i64 z)) :
    Calls Tryz.prog (parGet k) #[.pointer (some ⟨cb, 0, none⟩), .pointer (some ⟨bx, 0, none⟩)] w fun e w' => e = .returned (.int .i64 z) ∧ w' = w := by
  have HF := Lib.hid (fld_any cb w k hk)
  have hE := fld_enters k hk
  unfold parGet
  obtain ⟨f, hf⟩ : ∃ f, f = parFld k := ⟨_, rfl⟩
  rw [← hf] at hb HF hE
  obtain ⟨j, hj⟩ : ∃ j, j = 5 + k := ⟨_, rfl⟩
  rw [← hj] at hc HF
  clear hf hj
  by_cases h8 : k < 8
  · rw [if_pos h8]
    clear h8 hk
    go_enter Tryz.func81, Tryz.ntmps81
    go_wp2_with fail
    refine HF.out.mono ?_
    rintro e w' ⟨rfl, hw⟩
    rw [hw]
    clear hw w'
    go_wp2_with fail
    go_ret
    exact ⟨rfl, rfl⟩
  · rw [if_neg h8]
    clear h8 hk
    go_enter Tryz.func83, Tryz.ntmps83
    go_wp2_with fail
    refine HF.out.mono ?_
    rintro e w' ⟨rfl, hw⟩
    rw [hw]
    clear hw w'
    go_wp2_with fail
    go_ret
    exact ⟨rfl, rfl⟩
end Go.Proofs.YtloacoalmfaceaaGreatDoor
