/-
  math/bits.OnesCount64 and TrailingZeros64: what they return.
-/
import Derived.Test.YtalfjcamjdmdjaaDoorPlaces
import Derived.Test.YtalfjcamjdmdjaaDoorProg
import Derived.Shelf.Spec.TrailingZeros
import Derived.WalkKit
import Derived.WalkLawsBesides
import Derived.Laws.Bits128
namespace Go.Proofs.YtalfjcamjdmdjaaDoor
open Go.RowKit

theorem rep_a : rep (2 ^ (1 + 1)) (2 ^ 1 - 1) 32 = 6148914691236517205 := by decide
theorem rep_b : rep (2 ^ (2 + 2)) (2 ^ 2 - 1) 16 = 3689348814741910323 := by decide
theorem rep_c : rep 256 15 8 = 1085102592571150095 := by decide
theorem and_le' (a b : Nat) : a &&& b ≤ b := Nat.and_le_right
theorem step_a {x : Nat} (hx : x < 18446744073709551616) : IntKind.u64.wrap (bits .and .u64 ((x : Int) / 2) 6148914691236517205 + bits .and .u64 (x : Int) 6148914691236517205) = ((halve 1 32 x : Nat) : Int) := by
  have e1 := Go.u64_and_nat (x / 2) 6148914691236517205 (by omega) (by omega)
  have e2 := Go.u64_and_nat x 6148914691236517205 hx (by omega)
  have b1 := and_le' (x / 2) 6148914691236517205
  have b2 := and_le' x 6148914691236517205
  have c1 : ((x / 2 : Nat) : Int) = (x : Int) / 2 := by omega
  have c2 : ((6148914691236517205 : Nat) : Int) = 6148914691236517205 := rfl
  rw [c1, c2] at e1
  rw [c2] at e2
  rw [e1, e2]
  unfold halve
  rw [rep_a, Nat.pow_one, IntKind.wrap_u64]
  omega
theorem step_b {x : Nat} (hx : x < 18446744073709551616) : IntKind.u64.wrap (bits .and .u64 ((x : Int) / 4) 3689348814741910323 + bits .and .u64 (x : Int) 3689348814741910323) = ((halve 2 16 x : Nat) : Int) := by
  have e1 := Go.u64_and_nat (x / 4) 3689348814741910323 (by omega) (by omega)
  have e2 := Go.u64_and_nat x 3689348814741910323 hx (by omega)
  have b1 := and_le' (x / 4) 3689348814741910323
  have b2 := and_le' x 3689348814741910323
  have c1 : ((x / 4 : Nat) : Int) = (x : Int) / 4 := by omega
  have c2 : ((3689348814741910323 : Nat) : Int) = 3689348814741910323 := rfl
  rw [c1, c2] at e1
  rw [c2] at e2
  rw [e1, e2]
  unfold halve
  rw [rep_b, show (2 : Nat) ^ 2 = 4 from rfl, IntKind.wrap_u64]
  omega
theorem halve_top (x : Nat) : halve 1 32 x < 18446744073709551616 ∧ halve 2 16 x ≤ 7378697629483820646 := by
  constructor
  · exact halve_lt 1 (by decide) 32 x
  · unfold halve
    rw [rep_b]
    have b1 := and_le' (x / 2 ^ 2) 3689348814741910323
    have b2 := and_le' x 3689348814741910323
    omega
theorem step_c {x : Nat} (hx : x ≤ 7378697629483820646) : bits .and .u64 (IntKind.u64.wrap ((x : Int) / 16 + (x : Int))) 1085102592571150095 = (((x / 16 + x) &&& rep 256 15 8 : Nat) : Int) := by
  have e0 : IntKind.u64.wrap ((x : Int) / 16 + (x : Int)) = ((x / 16 + x : Nat) : Int) := by
    rw [IntKind.wrap_u64]
    omega
  have e1 := Go.u64_and_nat (x / 16 + x) 1085102592571150095 (by omega) (by omega)
  have c2 : ((1085102592571150095 : Nat) : Int) = 1085102592571150095 := rfl
  rw [c2] at e1
  rw [e0, e1, rep_c]
theorem ones_any (x : Nat) (hx : x < 18446744073709551616) (w : World) : Calls Tryd.prog 44 #[.int .u64 x] w fun e w' => e = .returned (.int .i64 (pop x)) ∧ w' = w := by
  have h1 := step_a hx
  obtain ⟨v1, v2⟩ := ones_val x
  have t1 := (halve_top x).1
  obtain ⟨x1, hx1⟩ : ∃ y, y = halve 1 32 x := ⟨_, rfl⟩
  rw [← hx1] at h1 v1 v2 t1
  have h2 := step_b t1
  have t2 := (halve_top x1).2
  obtain ⟨x2, hx2⟩ : ∃ y, y = halve 2 16 x1 := ⟨_, rfl⟩
  rw [← hx2] at h2 v1 v2 t2
  have h3 := step_c t2
  obtain ⟨x3, hx3⟩ : ∃ y, y = (x2 / 16 + x2) &&& rep 256 15 8 := ⟨_, rfl⟩
  have t3 : x3 < 18446744073709551616 := by
    rw [hx3, rep_c]
    exact Nat.lt_of_le_of_lt (and_le' _ _) (by decide)
  rw [← hx3] at h3 v1 v2
  obtain ⟨q1, q2, q3, q4, q5, q6, q7, e1, f1, f2, f3, f4, f5⟩ := bytes_sum x3 t3 v2
  rw [v1] at f4 f5
  obtain ⟨x4, hx4⟩ : ∃ y, y = x3 + q1 := ⟨_, rfl⟩
  obtain ⟨x5, hx5⟩ : ∃ y, y = x4 + (q2 + q3) := ⟨_, rfl⟩
  obtain ⟨x6, hx6⟩ : ∃ y, y = x5 + (q4 + q5 + q6 + q7) := ⟨_, rfl⟩
  rw [← hx4, ← hx5, ← hx6] at f4
  rw [← hx4] at f1
  rw [← hx4, ← hx5] at f2
  have h4 : IntKind.u64.wrap ((x3 : Int) + (x3 : Int) / 256) = (x4 : Int) := by rw [IntKind.wrap_u64]; omega
  have h5 : IntKind.u64.wrap ((x4 : Int) + (x4 : Int) / 65536) = (x5 : Int) := by rw [IntKind.wrap_u64]; omega
  have h6 : IntKind.u64.wrap ((x5 : Int) + (x5 : Int) / 4294967296) = (x6 : Int) := by rw [IntKind.wrap_u64]; omega
  have t6 : x6 ≤ 600000000000000000 := by omega
  have h7 : bits .and .i64 (x6 : Int) 127 = ((pop x : Nat) : Int) := by
    rw [i64_and127]
    omega
  clear v1 v2 hx1 hx2 hx3 hx4 hx5 hx6 f1 f2 f3 f4 e1 t1 t2 t3
  go_enter Tryd.func44, Tryd.ntmps44
  go_wp2_with fail
  go_ret
  exact ⟨rfl, rfl⟩

/-- the table that TrailingZeros64 reads. -/
def BruAt (w : World) : Prop := ∀ j, j < 64 → w.cell? ⟨0, j, none⟩ = some (.int .u8 (Lib.deBruijn64tab.getD j 0))
set_option maxHeartbeats 1000000 in
theorem tz_core (x k idx : Nat) (w : World) (hx0 : ((x : Int) == 0) = false)
    (key : IntKind.u64.wrap (bits BinOp.and IntKind.u64 (x : Int) (IntKind.u64.wrap (-(x : Int))) * 285870213051353865) / 288230376151711744 = (idx : Int))
    (hi : idx < 64) (hk : k < 64) (hcell : w.cell? ⟨0, idx, none⟩ = some (.int .u8 k)) :
    Calls Tryd.prog 37 #[.int .u64 x] w fun e w' => e = .returned (.int .i64 k) ∧ w' = w := by
  go_enter Tryd.func37, Tryd.ntmps37
  go_wp2_with (simp only [key])
  go_ret
  exact ⟨rfl, rfl⟩
theorem tz_any (x : Nat) (hx : x < 18446744073709551616) (hx0 : x ≠ 0) (w : World) (hT : BruAt w) : Calls Tryd.prog 37 #[.int .u64 x] w fun e w' => e = .returned (.int .i64 (Lib.ctz 64 x)) ∧ w' = w := by
  obtain ⟨hlow, hk⟩ := Lib.lowest_bit 64 x hx0 hx
  obtain ⟨hi, htab⟩ := Lib.deBruijn64_at _ hk
  have hcell := hT _ hi
  rw [htab] at hcell
  exact tz_core x _ _ w (by simp; omega) (tz64_key x _ hx hx0 hlow) hi hk hcell
end Go.Proofs.YtalfjcamjdmdjaaDoor
