/-
  nodeset: the text of a run of nodes, plain.
-/
import Derived.Test.YtbbklideciappaaGreatDoorNum
import Derived.Lib.IndexMore
import Derived.Lib.Split
import Derived.Lib.Join
import Derived.Lib.Strings
namespace Go.Proofs.YtbbklideciappaaGreatDoor
section
theorem index_at {c : UInt8} {t r : List UInt8} : ∀ {p : List UInt8}, c ∉ p → Lib.index (p ++ ((c :: t) ++ r)) (c :: t) = p.length
  | [], _ => by
    simp [Lib.index, List.isPrefixOf]
  | b :: p, h => by
    have hb : c ≠ b := fun e => h (by simp [e])
    have ih := index_at (c := c) (t := t) (r := r) (p := p) (fun e => h (by simp [e]))
    rw [List.cons_append]
    unfold Lib.index
    rw [ih]
    have h1 : (c :: t).isPrefixOf (b :: (p ++ (c :: t ++ r))) = false := by simp [List.isPrefixOf, hb]
    rw [h1]
    simp only [Bool.false_eq_true, if_false, List.length_cons]
    rw [if_neg (by simp)]
    omega
theorem index_miss {c : UInt8} : ∀ {p : List UInt8}, c ∉ p → Lib.index p [c] = -1
  | [], _ => by simp [Lib.index]
  | b :: p, h => by
    have hb : c ≠ b := fun e => h (by simp [e])
    have ih := index_miss (c := c) (p := p) (fun e => h (by simp [e]))
    unfold Lib.index
    rw [ih]
    have h1 : [c].isPrefixOf (b :: p) = false := by simp [List.isPrefixOf, hb]
    rw [h1]
    rfl
end
theorem itoa_nat {n : Int} (h : 0 ≤ n) : Lib.itoa n = Lib.decDigits n.toNat := by
  unfold Lib.itoa
  rw [if_neg (by omega)]
theorem mag_ok : ∀ (l : List UInt8) (acc : Nat), (∀ c ∈ l, isDig c) → valFrom acc l < 18446744073709551616 → Lib.parseUint10 acc l = .ok (valFrom acc l) := by
  intro l
  induction l with
  | nil => intro acc _ _; rw [valFrom_nil]; rfl
  | cons c t ih =>
    intro acc hd hv
    have hc : isDig c := hd c (by simp)
    have h1 := valFrom_ge t (acc * 10 + (c.toNat - 48))
    rw [valFrom_cons] at hv ⊢
    unfold isDig at hc
    simp only [Lib.parseUint10]
    rw [if_pos hc, if_neg (by omega), if_neg (by omega)]
    exact ih _ (fun x hx => hd x (by simp [hx])) hv
theorem atoi_itoa {n : Int} (h0 : 0 ≤ n) (h1 : n ≤ 4611686018427387904) : Lib.atoiAll (Lib.itoa n) = .ok n := by
  rw [itoa_nat h0]
  obtain ⟨c, r, hcr⟩ := List.exists_cons_of_ne_nil (dec_ne n.toNat)
  have hd := dec_dig n.toNat
  have hv := val_dec n.toNat
  rw [hcr] at hd hv ⊢
  have hc : isDig c := hd c (by simp)
  have h43 : ¬ (c.toNat = 43 ∨ c.toNat = 45) := by unfold isDig at hc; omega
  have h45 : ¬ c.toNat = 45 := by unfold isDig at hc; omega
  have hu : Lib.parseMag (c :: r) = .ok n.toNat := by
    unfold Lib.parseMag
    rw [if_neg (by simp)]
    rw [mag_ok _ 0 hd (by omega), hv]
  unfold Lib.atoiAll
  simp only
  rw [if_neg h43, hu]
  simp only
  rw [if_neg (by omega), if_neg (fun q => h45 q.1), if_neg h45]
  congr 1
  omega

theorem itoa_inj {a b : Int} (ha : 0 ≤ a) (hb : 0 ≤ b) (h : Lib.itoa a = Lib.itoa b) : a = b := by
  rw [itoa_nat ha, itoa_nat hb] at h
  have := dec_inj h
  omega
theorem cut_miss {p : List UInt8} (h : (45 : UInt8) ∉ p) : Lib.cut p [45] = (p, [], false) := by
  unfold Lib.cut
  rw [index_miss h, if_neg (by decide)]
theorem cut_hit {p : List UInt8} (h : (45 : UInt8) ∉ p) (r : List UInt8) : Lib.cut (p ++ 45 :: r) [45] = (p, r, true) := by
  have e : Lib.index (p ++ 45 :: r) [45] = p.length := index_at (c := 45) (t := []) (r := r) h
  unfold Lib.cut
  rw [e, if_pos (by omega)]
  simp
theorem cut_cases (s : List UInt8) : ((45 : UInt8) ∉ s ∧ Lib.cut s [45] = (s, [], false)) ∨ ∃ p r, (45 : UInt8) ∉ p ∧ s = p ++ 45 :: r ∧ Lib.cut s [45] = (p, r, true) := by
  by_cases h : (45 : UInt8) ∈ s
  · obtain ⟨p, r, e, hp⟩ := List.eq_append_cons_of_mem h
    exact .inr ⟨p, r, hp, e, by rw [e]; exact cut_hit hp r⟩
  · exact .inl ⟨h, cut_miss h⟩
/-- the text of the nodes from a to b. -/
def runT (a b : Nat) : List UInt8 := if a = b then Lib.decDigits a else Lib.decDigits a ++ 45 :: Lib.decDigits b
theorem dash_dec (n : Nat) : (45 : UInt8) ∉ Lib.decDigits n := fun h => by
  have := dec_dig n 45 h
  unfold isDig at this
  exact absurd this (by decide)
theorem runT_one (a : Nat) : runT a a = Lib.decDigits a := if_pos rfl
theorem runT_two {a b : Nat} (h : a ≠ b) : runT a b = Lib.decDigits a ++ 45 :: Lib.decDigits b := if_neg h
theorem dec_len4 {n : Nat} (h : n < 4096) : (Lib.decDigits n).length ≤ 4 := by
  have d1 : ∀ m, m < 10 → (Lib.decDigits m).length = 1 := fun m h => by rw [dec_small h]; rfl
  have step : ∀ m k, ¬ m < 10 → (Lib.decDigits (m / 10)).length ≤ k → (Lib.decDigits m).length ≤ k + 1 := fun m k h hk => by
    rw [dec_big h, List.length_append]
    exact Nat.succ_le_succ hk
  have d2 : ∀ m, m < 100 → (Lib.decDigits m).length ≤ 2 := fun m h => by
    by_cases q : m < 10
    · rw [d1 m q]; decide
    · exact step m 1 q (by rw [d1 _ (by omega)]; exact Nat.le_refl _)
  have d3 : ∀ m, m < 1000 → (Lib.decDigits m).length ≤ 3 := fun m h => by
    by_cases q : m < 10
    · rw [d1 m q]; decide
    · exact step m 2 q (d2 _ (by omega))
  by_cases q : n < 10
  · rw [d1 n q]; decide
  · exact step n 3 q (d3 _ (by omega))
theorem runT_len {a b : Nat} (ha : a < 4096) (hb : b < 4096) : (runT a b).length ≤ 9 := by
  have h1 := dec_len4 ha
  have h2 := dec_len4 hb
  unfold runT
  split
  · omega
  · rw [List.length_append, List.length_cons]
    omega
end Go.Proofs.YtbbklideciappaaGreatDoor
