/-
  nodeset: Len, Has, All.
-/
import Derived.Test.YtalfjcamjdmdjaaDoorSetB
namespace Go.Proofs.YtalfjcamjdmdjaaDoor
open Go.RowKit

theorem popW_zeros : popW zeros = 0 := by
  rw [← nodes_len, nodes_zeros]
  rfl
set_option maxRecDepth 100000 in
set_option maxHeartbeats 1000000 in
theorem len_any (w : World) (p : Option Addr) (W : List Nat) (h : SetAt w p W) : Calls Tryd.prog 21 #[.agg #[.pointer p]] w fun e w' => e = .returned (.int .i64 (popW W)) ∧ Below w.heap.size w w' := by
  obtain ⟨hW, ⟨rfl, rfl⟩ | ⟨hne, b, rfl, hrow⟩⟩ := h
  · go_enter Tryd.func21, Tryd.ntmps21
    go_wp2_with fail
    go_ret
    exact ⟨ret_int (by rw [popW_zeros]; rfl), (Below.refl _ _).alloc (Nat.le_refl _) _⟩
  · have hb0 : Below w.heap.size w (w.alloc (.cells #[.pointer (some ⟨b, 0, none⟩)] 30)) := (Below.refl _ _).alloc (Nat.le_refl _) _
    have HB0 := Lib.hid hb0
    have HR := Lib.hid (hrow.below hb0)
    have HW := Lib.hid hW
    clear hb0 hrow hne hW
    go_enter Tryd.func21, Tryd.ntmps21
    go_wp2_with fail
    go_loop [3, 5, 11] (fun nv _ iv => ∃ k : Nat, k ≤ 64 ∧ iv = .int .i64 k ∧ nv = .int .i64 (popW (W.take k))) (fun _ _ i => 64 - (intOf i).toNat)
    case atStart => exact ⟨0, Nat.zero_le _, rfl, rfl⟩
    case round =>
      obtain ⟨k, hk, rfl, rfl⟩ := hrel
      by_cases hlt : k < 64
      · obtain ⟨x, hx⟩ : ∃ x, W[k]? = some x := ⟨W[k]'(by rw [HW.out.len]; exact hlt), by simp⟩
        have hc := HR.out.cell hx
        have hxl := HW.out.lt x (List.mem_of_getElem? hx)
        have HT := Lib.hid (popW_take W k x hx)
        have hp1 := popW_le (W.take k)
        have hp2 : (W.take k).length ≤ k := List.length_take_le _ _
        have hp3 := pop_le x
        have hp4 : popW (W.take k) ≤ 4096 := by omega
        have HON := Lib.hid (fun X : World => ones_any x hxl X)
        obtain ⟨y, hy⟩ : ∃ y, y = pop x := ⟨_, rfl⟩
        obtain ⟨z, hzz⟩ : ∃ z, z = popW (W.take k) := ⟨_, rfl⟩
        rw [← hy] at HT hp3 HON
        rw [← hzz] at HT hp4 ⊢
        clear hx hp1 hp2 hxl hy hzz
        go_wp2_with fail
        refine (HON.out _).mono ?_
        rintro e w' ⟨rfl, rfl⟩
        go_wp2_with fail
        go_round
        case rel => exact ⟨k + 1, by omega, by go_num, by rw [HT.out]; go_num⟩
        case measure => simp [intOf]; omega
      · have hkk : k = 64 := by omega
        subst hkk
        have HE := Lib.hid (show W.take 64 = W from List.take_of_length_le (by rw [HW.out.len]; exact Nat.le_refl _))
        go_wp2_with fail
        go_ret
        exact ⟨ret_int (by rw [HE.out]), HB0.out⟩

theorem bit_test {x : Nat} (hx : x < 18446744073709551616) (r : Nat) : (bits .and .u64 ((x : Int) / 2 ^ r) 1 == 1) = x.testBit r := by
  have hp : x / 2 ^ r ≤ x := Nat.div_le_self _ _
  have e := Go.u64_and_nat (x / 2 ^ r) 1 (by omega) (by omega)
  have e1 : ((x / 2 ^ r : Nat) : Int) = (x : Int) / 2 ^ r := by simp
  rw [e1] at e
  have e2 : ((1 : Nat) : Int) = 1 := rfl
  rw [e2] at e
  rw [e, nat_mask1, Nat.testBit_eq_decide_div_mod_eq, Bool.eq_iff_iff]
  simp
  omega
/-- what Has returns. -/
def hasB (W : List Nat) (n : Int) : Bool := decide (0 ≤ n) && decide (n < 4096) && hasW W n.toNat
set_option maxRecDepth 100000 in
set_option maxHeartbeats 1000000 in
theorem has_any (w : World) (p : Option Addr) (W : List Nat) (n : Int) (h : SetAt w p W) : Calls Tryd.prog 24 #[.agg #[.pointer p], .int .i64 n] w fun e w' => e = .returned (.bool (hasB W n)) ∧ Below w.heap.size w w' := by
  obtain ⟨hW, ⟨rfl, rfl⟩ | ⟨hne, b, rfl, hrow⟩⟩ := h
  · have hv : hasB zeros n = false := by unfold hasB; rw [has_zeros]; simp
    have HV := Lib.hid hv
    clear hv
    go_enter Tryd.func24, Tryd.ntmps24
    go_wp2_with fail
    go_ret
    exact ⟨ret_bool HV.out.symm, (Below.refl _ _).alloc (Nat.le_refl _) _⟩
  · have hb0 : Below w.heap.size w (w.alloc (.cells #[.pointer (some ⟨b, 0, none⟩)] 30)) := (Below.refl _ _).alloc (Nat.le_refl _) _
    have HB0 := Lib.hid hb0
    have HR := Lib.hid (hrow.below hb0)
    have HW := Lib.hid hW
    clear hb0 hrow hne hW
    by_cases h0 : 0 ≤ n
    · by_cases h1 : n < 4096
      · obtain ⟨m, rfl⟩ : ∃ m : Nat, n = (m : Int) := ⟨n.toNat, by omega⟩
        have q0 : m / 64 < 64 := by omega
        obtain ⟨x, hx⟩ : ∃ x, W[m / 64]? = some x := ⟨W[m / 64]'(by rw [HW.out.len]; exact q0), by simp⟩
        have hc := HR.out.cell hx
        have hv : hasB W (m : Int) = x.testBit (m % 64) := by
          unfold hasB hasW
          rw [Int.toNat_natCast, List.getD_eq_getElem?_getD, hx, Option.getD_some]
          simp
          omega
        have hxl := HW.out.lt x (List.mem_of_getElem? hx)
        have HV := Lib.hid (hv.trans (bit_test hxl (m % 64)).symm)
        clear hx hv hxl
        go_enter Tryd.func24, Tryd.ntmps24
        go_wp2_with fail
        go_ret
        exact ⟨ret_bool HV.out.symm, HB0.out⟩
      · have hv : hasB W n = false := by unfold hasB; simp; omega
        have HV := Lib.hid hv
        have h1' : 4096 ≤ n := by omega
        clear hv h1
        go_enter Tryd.func24, Tryd.ntmps24
        go_wp2_with fail
        go_ret
        exact ⟨ret_bool HV.out.symm, HB0.out⟩
    · have hv : hasB W n = false := by unfold hasB; simp; omega
      have HV := Lib.hid hv
      have h1' : n < 0 := by omega
      clear hv h0
      go_enter Tryd.func24, Tryd.ntmps24
      go_wp2_with fail
      go_ret
      exact ⟨ret_bool HV.out.symm, HB0.out⟩
end Go.Proofs.YtalfjcamjdmdjaaDoor
