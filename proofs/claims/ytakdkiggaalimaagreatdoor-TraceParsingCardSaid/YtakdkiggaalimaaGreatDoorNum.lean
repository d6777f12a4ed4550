/-
  Decimal numerals: what the parser makes of them.
  No condition: plain lemmas on lists of bytes.
-/
import Derived.Lib.ItoaMem
import Derived.Lib.ParseIntB
import Derived.Lib.AtoiAll
namespace Go.Proofs.YtakdkiggaalimaaGreatDoor
open Go.Lib

def isDig (c : UInt8) : Prop := 48 ≤ c.toNat ∧ c.toNat ≤ 57
def valFrom (acc : Nat) (l : List UInt8) : Nat := l.foldl (fun a c => a * 10 + (c.toNat - 48)) acc

theorem dig_toNat {d : Nat} (h : d < 10) : (UInt8.ofNat (48 + d)).toNat = 48 + d := by
  rw [UInt8.toNat_ofNat']
  omega
theorem dig_is {d : Nat} (h : d < 10) : isDig (UInt8.ofNat (48 + d)) := by
  unfold isDig
  rw [dig_toNat h]
  omega

theorem valFrom_append (l r : List UInt8) : ∀ acc, valFrom acc (l ++ r) = valFrom (valFrom acc l) r := by
  intro acc
  unfold valFrom
  rw [List.foldl_append]

theorem valFrom_nil (a : Nat) : valFrom a [] = a := by unfold valFrom; rw [List.foldl_nil]
theorem valFrom_cons (a : Nat) (c : UInt8) (l : List UInt8) : valFrom a (c :: l) = valFrom (a * 10 + (c.toNat - 48)) l := by unfold valFrom; rw [List.foldl_cons]
theorem valFrom_one (a : Nat) (c : UInt8) : valFrom a [c] = a * 10 + (c.toNat - 48) := by rw [valFrom_cons, valFrom_nil]

theorem dec_small {n : Nat} (h : n < 10) : decDigits n = [UInt8.ofNat (48 + n)] := by rw [decDigits, dif_pos h]
theorem dec_big {n : Nat} (h : ¬ n < 10) : decDigits n = decDigits (n / 10) ++ [UInt8.ofNat (48 + n % 10)] := by rw [decDigits, dif_neg h]

theorem dec_ne (n : Nat) : decDigits n ≠ [] := by
  by_cases h : n < 10
  · rw [dec_small h]
    simp
  · rw [dec_big h]
    simp

theorem dec_dig (n : Nat) : ∀ c ∈ decDigits n, isDig c := by
  induction n using Nat.strongRecOn with
  | ind n ih =>
    by_cases h : n < 10
    · rw [dec_small h]
      intro c hc
      rw [List.mem_singleton.1 hc]
      exact dig_is h
    · rw [dec_big h]
      intro c hc
      rcases List.mem_append.1 hc with hc | hc
      · exact ih (n / 10) (by omega) c hc
      · rw [List.mem_singleton.1 hc]
        exact dig_is (by omega)

theorem val_dec (n : Nat) : valFrom 0 (decDigits n) = n := by
  induction n using Nat.strongRecOn with
  | ind n ih =>
    by_cases h : n < 10
    · have e := congrArg (valFrom 0) (dec_small h)
      refine e.trans ?_
      rw [valFrom_one, dig_toNat h]
      omega
    · have e := congrArg (valFrom 0) (dec_big h)
      refine e.trans ?_
      rw [valFrom_append, ih (n / 10) (by omega), valFrom_one, dig_toNat (show n % 10 < 10 by omega)]
      omega

theorem dec_inj {a b : Nat} (h : decDigits a = decDigits b) : a = b := by
  rw [← val_dec a, h, val_dec]

theorem valFrom_ge (l : List UInt8) : ∀ acc, acc ≤ valFrom acc l := by
  induction l with
  | nil => intro acc; rw [valFrom_nil]; exact Nat.le_refl acc
  | cons c t ih =>
    intro acc
    have := ih (acc * 10 + (c.toNat - 48))
    rw [valFrom_cons]
    omega

theorem uint_ok (M : Nat) (hM : M < 18446744073709551616) : ∀ (l : List UInt8) (acc : Nat), (∀ c ∈ l, isDig c) → valFrom acc l ≤ M → parseUintM M acc l = .ok (valFrom acc l) := by
  intro l
  induction l with
  | nil => intro acc _ _; rw [valFrom_nil]; rfl
  | cons c t ih =>
    intro acc hd hv
    have hc : isDig c := hd c (by simp)
    have h1 := valFrom_ge t (acc * 10 + (c.toNat - 48))
    rw [valFrom_cons] at hv ⊢
    unfold isDig at hc
    simp only [parseUintM]
    rw [if_pos hc, if_neg (by omega), if_neg (by omega)]
    exact ih _ (fun x hx => hd x (by simp [hx])) hv

theorem int_ok {l : List UInt8} (hd : ∀ c ∈ l, isDig c) (hne : l ≠ []) (hv : valFrom 0 l < 9223372036854775808) : parseIntB 64 l = .ok (valFrom 0 l : Int) := by
  cases l with
  | nil => exact absurd rfl hne
  | cons c r =>
    have hc : isDig c := hd c (by simp)
    have h43 : ¬ (c.toNat = 43 ∨ c.toNat = 45) := by unfold isDig at hc; omega
    have h45 : ¬ c.toNat = 45 := by unfold isDig at hc; omega
    have hu : parseUintB 64 (c :: r) = .ok (valFrom 0 (c :: r)) := by
      unfold parseUintB
      rw [if_neg (by simp)]
      exact uint_ok (2 ^ 64 - 1) (by decide) _ 0 hd (by have : (2 : Nat) ^ 64 - 1 = 18446744073709551615 := by decide
                                                        omega)
    have h63 : ¬ (2 : Nat) ^ (64 - 1) ≤ valFrom 0 (c :: r) := by
      have : (2 : Nat) ^ (64 - 1) = 9223372036854775808 := by decide
      omega
    unfold parseIntB
    simp only
    rw [if_neg h43, hu]
    simp only
    rw [if_neg (fun q => h63 q.2), if_neg (fun q => h45 q.1), if_neg h45]

theorem int_dec {n : Nat} (h : n < 9223372036854775808) : parseIntB 64 (decDigits n) = .ok (n : Int) := by
  have := int_ok (dec_dig n) (dec_ne n) (by rw [val_dec]; exact h)
  rw [val_dec] at this
  exact this

end Go.Proofs.YtakdkiggaalimaaGreatDoor
