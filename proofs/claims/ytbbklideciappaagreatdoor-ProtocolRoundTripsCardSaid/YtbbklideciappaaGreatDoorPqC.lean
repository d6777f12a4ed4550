/-
  The checksum, in plain Lean: a byte is added; the exclusive or bit by bit.
-/
import Derived.Test.YtbbklideciappaaGreatDoorTb
namespace Go.Proofs.YtbbklideciappaaGreatDoor
open Go.RowKit

/-- one byte more. -/
def sumB (s b : Nat) : Nat := ((s ^^^ b) * 1099511628211 % 18446744073709551616) ^^^ ((s ^^^ b) * 1099511628211 % 18446744073709551616 / 4294967296)
def sumL (s : Nat) (l : List UInt8) : Nat := l.foldl (fun s c => sumB s c.toNat) s
theorem sumL_snoc (s : Nat) (l : List UInt8) (c : UInt8) : sumL s (l ++ [c]) = sumB (sumL s l) c.toNat := by
  unfold sumL
  rw [List.foldl_append, List.foldl_cons, List.foldl_nil]
theorem sumB_lt (s b : Nat) : sumB s b < 18446744073709551616 := by
  unfold sumB
  have e : (18446744073709551616 : Nat) = 2 ^ 64 := by decide
  rw [e]
  exact Nat.xor_lt_two_pow (Nat.mod_lt _ (by decide)) (Nat.lt_of_le_of_lt (Nat.div_le_self _ _) (Nat.mod_lt _ (by decide)))
theorem sumL_lt {s : Nat} (hs : s < 18446744073709551616) : ∀ l : List UInt8, sumL s l < 18446744073709551616 := by
  intro l
  induction l generalizing s with
  | nil => exact hs
  | cons c r ih => exact ih (sumB_lt _ _)
theorem bit_val (a k : Nat) : a / 2 ^ k % 2 = if a.testBit k then 1 else 0 := by
  rw [Nat.testBit_eq_decide_div_mod_eq]
  have : a / 2 ^ k % 2 = 0 ∨ a / 2 ^ k % 2 = 1 := by omega
  rcases this with h | h <;> simp [h]
/-- the exclusive or's first k bits. -/
def xorK (a b k : Nat) : Nat := (a ^^^ b) % 2 ^ k
theorem xorK_zero (a b : Nat) : xorK a b 0 = 0 := by unfold xorK; simp [Nat.mod_one]
theorem mod_pow_succ' (x k : Nat) : x % 2 ^ (k + 1) = x % 2 ^ k + 2 ^ k * (x / 2 ^ k % 2) := by
  rw [Nat.pow_succ, Nat.mod_mul]
theorem xorK_ne {a b k : Nat} (h : a / 2 ^ k % 2 ≠ b / 2 ^ k % 2) : xorK a b (k + 1) = xorK a b k + 2 ^ k := by
  unfold xorK
  rw [mod_pow_succ', bit_val, Nat.testBit_xor]
  rw [bit_val, bit_val] at h
  cases ha : a.testBit k <;> cases hb : b.testBit k <;> simp [ha, hb] at h ⊢
theorem xorK_eq {a b k : Nat} (h : a / 2 ^ k % 2 = b / 2 ^ k % 2) : xorK a b (k + 1) = xorK a b k := by
  unfold xorK
  rw [mod_pow_succ', bit_val, Nat.testBit_xor]
  rw [bit_val, bit_val] at h
  cases ha : a.testBit k <;> cases hb : b.testBit k <;> simp [ha, hb] at h ⊢
theorem xorK_lt (a b k : Nat) : xorK a b k < 2 ^ k := Nat.mod_lt _ (Nat.two_pow_pos k)
theorem xor_low {s b : Nat} (hb : b < 256) : s - s % 256 + xorK (s % 256) b 8 = s ^^^ b := by
  unfold xorK
  have e : (256 : Nat) = 2 ^ 8 := by decide
  have h1 : (s ^^^ b) / 2 ^ 8 = s / 2 ^ 8 := by
    rw [Nat.xor_div_two_pow]
    have : b / 2 ^ 8 = 0 := Nat.div_eq_of_lt (by omega)
    rw [this, Nat.xor_zero]
  have h2 : (s ^^^ b) % 2 ^ 8 = (s % 2 ^ 8 ^^^ b) % 2 ^ 8 := by
    rw [Nat.xor_mod_two_pow, Nat.xor_mod_two_pow, Nat.mod_mod]
  have h3 := Nat.div_add_mod (s ^^^ b) (2 ^ 8)
  have h4 := Nat.div_add_mod s (2 ^ 8)
  rw [h1, h2] at h3
  rw [e]
  omega
end Go.Proofs.YtbbklideciappaaGreatDoor
