/-
  Plain lemmas on texts: where a separator is found first; what a numeral of a time's text is read as.
-/
import Derived.Test.YtloacoalmfaceaaGreatDoorNum
import Derived.Lib.IndexMore
import Derived.Lib.Split
namespace Go.Proofs.YtloacoalmfaceaaGreatDoor
open Go.Lib

theorem index_at {c : UInt8} {t r : List UInt8} : ∀ {p : List UInt8}, c ∉ p → index (p ++ ((c :: t) ++ r)) (c :: t) = p.length
  | [], _ => by
    simp [index, List.isPrefixOf]
  | b :: p, h => by
    have hb : c ≠ b := fun e => h (by simp [e])
    have ih := index_at (c := c) (t := t) (r := r) (p := p) (fun e => h (by simp [e]))
    rw [List.cons_append]
    unfold index
    rw [ih]
    have h1 : (c :: t).isPrefixOf (b :: (p ++ (c :: t ++ r))) = false := by simp [List.isPrefixOf, hb]
    rw [h1]
    simp only [Bool.false_eq_true, if_false, List.length_cons]
    rw [if_neg (by simp)]
    omega

theorem cut_at {c : UInt8} {t r p : List UInt8} (h : c ∉ p) : cut (p ++ ((c :: t) ++ r)) (c :: t) = (p, r, true) := by
  unfold cut
  rw [index_at h, if_pos (by omega)]
  simp

/-- what a numeral is worth in units of u, and whether it is one that is not too great. -/
def scaleOf (l : List UInt8) (u : Int) : Int × Bool :=
  match parseIntB 64 l with
  | .ok n => if n < 0 ∨ 4611686018427387904 / u < n then (0, false) else (n * u, true)
  | _ => (0, false)

theorem scale_val {l : List UInt8} {u : Int} (hd : ∀ c ∈ l, isDig c) (hne : l ≠ []) (hu : 0 < u) (hv : (valFrom 0 l : Int) * u ≤ 4611686018427387904) (hb : valFrom 0 l < 9223372036854775808) : scaleOf l u = ((valFrom 0 l : Int) * u, true) := by
  unfold scaleOf
  rw [int_ok hd hne hb]
  simp only
  rw [if_neg]
  intro h
  rcases h with h | h
  · omega
  · have := Int.le_ediv_of_mul_le hu hv
    omega

theorem scale_range (l : List UInt8) {u : Int} (hu : 0 < u) : 0 ≤ (scaleOf l u).1 ∧ (scaleOf l u).1 ≤ 4611686018427387904 := by
  unfold scaleOf
  split
  · split
    · simp
    · rename_i n _ h
      have h1 : n ≤ 4611686018427387904 / u := by omega
      have h2 : 0 ≤ n := by omega
      have h3 := Int.mul_le_of_le_ediv hu h1
      exact ⟨Int.mul_nonneg h2 (by omega), h3⟩
  · simp

end Go.Proofs.YtloacoalmfaceaaGreatDoor
