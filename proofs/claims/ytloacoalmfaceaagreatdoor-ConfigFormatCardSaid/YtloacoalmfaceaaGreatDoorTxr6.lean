/-
  samaritanref06: Digits, Kind, Words.
-/
import Derived.Test.YtloacoalmfaceaaGreatDoorLnc6
import Derived.Deep.QuietTactic
import Derived.BigQuiet
import Derived.IntWalk
import Derived.Deep.RegionHeld3
namespace Go.Proofs.YtloacoalmfaceaaGreatDoor
open Go.RowKit Go.Maps Go.Shelf

theorem ret_s {a b : ByteArray} (h : a = b) : Ending.returned (.string a) = Ending.returned (.string b) := by rw [h]
theorem ten_slice {n : Nat} (h : n < 10) : (⟨#[48, 49, 50, 51, 52, 53, 54, 55, 56, 57]⟩ : ByteArray).extract n (n + 1) = bs (Lib.decDigits n) := by
  rw [dec_small h]
  obtain rfl | rfl | rfl | rfl | rfl | rfl | rfl | rfl | rfl | rfl : n = 0 ∨ n = 1 ∨ n = 2 ∨ n = 3 ∨ n = 4 ∨ n = 5 ∨ n = 6 ∨ n = 7 ∨ n = 8 ∨ n = 9 := by omega
  all_goals decide
set_option maxRecDepth 100000 in
theorem digits_go : ∀ (k : Nat) (n : Int) (_ : 0 ≤ n) (_ : n.toNat < k) (_ : n < 1000000000000000000) (w : World), Calls Tryz.prog 40 #[.int .i64 n] w fun e w' => e = .returned (.string (bs (Lib.decDigits n.toNat))) ∧ ∃ m, w' = w.drewN m := by
  intro k
  induction k with
  | zero => intro n _ h; omega
  | succ k ih =>
    intro n h0 hk hn w
    by_cases h : n < 10
    · go_enter Tryz.func40, Tryz.ntmps40
      go_wp2_with fail
      go_ret
      refine ⟨ret_s ?_, 0, rfl⟩
      have e1 : (n + 1).toNat = n.toNat + 1 := by omega
      rw [e1]
      exact ten_slice (by omega)
    · have HIH := Lib.hid (fun W : World => ih (n / 10) (by omega) (by omega) (by omega) W)
      have l1 : (bs (Lib.decDigits (n / 10).toNat)).size ≤ 18 := by
        rw [bs_size]
        exact dec_le (m := 18) (z := n / 10) (by omega) (by omega)
      have m0 : 0 ≤ n % 10 := by omega
      have m1 : n % 10 < 10 := by omega
      have HM := Lib.hid (show (bs (Lib.decDigits (n / 10).toNat) ++ (⟨#[48, 49, 50, 51, 52, 53, 54, 55, 56, 57]⟩ : ByteArray).extract (n % 10).toNat (n % 10 + 1).toNat) = bs (Lib.decDigits n.toNat) by
        rw [show (n % 10 + 1).toNat = (n % 10).toNat + 1 by omega, ten_slice (by omega), bs_append, dec_big (n := n.toNat) (by omega), show (n / 10).toNat = n.toNat / 10 by omega, show (n % 10).toNat = n.toNat % 10 by omega, dec_small (n := n.toNat % 10) (by omega)])
      have t0 : n.tmod 10 = n % 10 := Int.tmod_eq_emod_of_nonneg h0
      have t6 : n.tdiv 10 = n / 10 := Int.tdiv_eq_ediv_of_nonneg h0
      have t7 : IntKind.i64.wrap (n / 10) = n / 10 := IntWalk.i64_in _ (by omega)
      have t1 : IntKind.i64.wrap (n % 10) = n % 10 := IntWalk.i64_in _ (by omega)
      have t2 : IntKind.i64.wrap (n % 10 + 1) = n % 10 + 1 := IntWalk.i64_in _ (by omega)
      have t3 : n % 10 ≤ n % 10 + 1 := by omega
      have t4 : n % 10 + 1 ≤ 10 := by omega
      have t5 : 0 ≤ n % 10 + 1 := by omega
      clear ih hn hk
      go_enter Tryz.func40, Tryz.ntmps40
      go_wp2_with fail
      go_quiet ((go_at_call 40; exact Calls.quiet_of (HIH.out _)))
      go_wp2_with fail
      go_ret
      exact ⟨ret_s HM.out, _, rfl⟩
theorem digits_any (z : Int) (h : Num18 z) (w : World) : Calls Tryz.prog 40 #[.int .i64 z] w fun e w' => e = .returned (.string (bs (dec z))) ∧ ∃ n, w' = w.drewN n :=
  digits_go (z.toNat + 1) z h.1 (by omega) h.2 w
set_option maxRecDepth 100000 in
theorem kindR_any (k : Int) (hk : KindOk k) (w : World) : Calls Tryz.prog 41 #[.int .i64 k] w fun e w' => e = .returned (.string (bs (kindName k))) ∧ Below w.heap.size w w' := by
  unfold KindOk at hk
  have : k = 1 ∨ k = 2 ∨ k = 3 ∨ k = 4 := by omega
  rcases this with rfl | rfl | rfl | rfl
  · go_enter Tryz.func41, Tryz.ntmps41
    go_wp2_with fail
    go_ret
    exact ⟨rfl, (Below.refl _ _).alloc (Nat.le_refl _) _⟩
  · go_enter Tryz.func41, Tryz.ntmps41
    go_wp2_with fail
    go_ret
    exact ⟨rfl, (Below.refl _ _).alloc (Nat.le_refl _) _⟩
  · go_enter Tryz.func41, Tryz.ntmps41
    go_wp2_with fail
    go_ret
    exact ⟨rfl, (Below.refl _ _).alloc (Nat.le_refl _) _⟩
  · go_enter Tryz.func41, Tryz.ntmps41
    go_wp2_with fail
    go_ret
    exact ⟨rfl, (Below.refl _ _).alloc (Nat.le_refl _) _⟩
set_option maxRecDepth 100000 in
theorem wordsR_any (w : World) : Calls Tryz.prog 42 #[] w fun e w' => ∃ g, e = .returned (.slice (some ⟨g, 0, none⟩) 10 10) ∧ w.heap.size ≤ g ∧ g < w'.heap.size ∧ (∀ k, k < 10 → w'.cell? ⟨g, k, none⟩ = some (.string (parNm k))) ∧ Below w.heap.size w w' := by
  go_enter Tryz.func42, Tryz.ntmps42
  go_wp2_with fail
  go_ret
  refine ⟨_, rfl, Nat.le_refl _, by simp, fun k hk => ?_, (Below.refl _ _).alloc (Nat.le_refl _) _⟩
  rw [World.cell?_alloc_at (hn := rfl)]
  revert k
  exact ten_cases rfl rfl rfl rfl rfl rfl rfl rfl rfl rfl
end Go.Proofs.YtloacoalmfaceaaGreatDoor
