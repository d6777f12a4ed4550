/-
  Plain: the nodes of a union, an intersection, a difference; the laws of set algebra.
-/
import Derived.Test.YtalfjcamjdmdjaaDoorSetLaw
namespace Go.Proofs.YtalfjcamjdmdjaaDoor
open Go.RowKit

abbrev orW (V W : List Nat) : List Nat := mixW orN V W 64
abbrev andW (V W : List Nat) : List Nat := mixW andN V W 64
abbrev lessW (V W : List Nat) : List Nat := mixW lessN V W 64
section
variable {V W : List Nat}
theorem wds_or (hV : Wds V) (hW : Wds W) : Wds (orW V W) := wds_mix (fun hx hy => orN_lt hx hy) hV hW 64
theorem wds_and (hV : Wds V) (hW : Wds W) : Wds (andW V W) := wds_mix (fun hx hy => andN_lt hx hy) hV hW 64
theorem wds_less (hV : Wds V) (hW : Wds W) : Wds (lessW V W) := wds_mix (fun hx hy => lessN_lt hx hy) hV hW 64
theorem less_bit {x y i : Nat} (hy : y < 18446744073709551616) (hi : i < 64) : (lessN x y).testBit i = (x.testBit i && !y.testBit i) := by
  unfold lessN
  rw [Nat.testBit_and]
  have h2 : y < 2 ^ 64 := hy
  have := Nat.testBit_two_pow_sub_succ h2 i
  have e : 2 ^ 64 - (y + 1) = 18446744073709551615 - y := by omega
  rw [e] at this
  rw [this, decide_eq_true hi, Bool.true_and]
theorem mem_or (hV : Wds V) (hW : Wds W) {m : Nat} : m ∈ nodesW (orW V W) ↔ m ∈ nodesW V ∨ m ∈ nodesW W := by
  rw [mem_nodes, mem_nodes, mem_nodes]
  by_cases hm : m < 4096
  · rw [has_mix hm]
    unfold orN
    rw [Nat.testBit_or, Bool.or_eq_true]
    rfl
  · have h1 : ∀ U : List Nat, Wds U → ¬ hasW U m = true := fun U hU h => by
      have := has_lt h
      rw [hU.len] at this
      omega
    simp only [h1 _ (wds_or hV hW), h1 _ hV, h1 _ hW, or_self]
theorem mem_and (hV : Wds V) (hW : Wds W) {m : Nat} : m ∈ nodesW (andW V W) ↔ m ∈ nodesW V ∧ m ∈ nodesW W := by
  rw [mem_nodes, mem_nodes, mem_nodes]
  by_cases hm : m < 4096
  · rw [has_mix hm]
    unfold andN
    rw [Nat.testBit_and, Bool.and_eq_true]
    rfl
  · have h1 : ∀ U : List Nat, Wds U → ¬ hasW U m = true := fun U hU h => by
      have := has_lt h
      rw [hU.len] at this
      omega
    exact ⟨fun h => absurd h (h1 _ (wds_and hV hW)), fun h => absurd h.1 (h1 _ hV)⟩
theorem mem_less (hV : Wds V) (hW : Wds W) {m : Nat} : m ∈ nodesW (lessW V W) ↔ m ∈ nodesW V ∧ m ∉ nodesW W := by
  rw [mem_nodes, mem_nodes, mem_nodes]
  by_cases hm : m < 4096
  · rw [has_mix hm, less_bit (getD_lt hW _) (by omega), Bool.and_eq_true, Bool.not_eq_true', ← Bool.not_eq_true]
    rfl
  · have h1 : ∀ U : List Nat, Wds U → ¬ hasW U m = true := fun U hU h => by
      have := has_lt h
      rw [hU.len] at this
      omega
    exact ⟨fun h => absurd h (h1 _ (wds_less hV hW)), fun h => absurd h.1 (h1 _ hV)⟩
end
theorem eq_of_mem {V W : List Nat} (hV : Wds V) (hW : Wds W) (h : ∀ m, m ∈ nodesW V ↔ m ∈ nodesW W) : V = W := words_ext hV hW (up_ext (nodes_up _) (nodes_up _) h)
section
variable {X Y Z : List Nat}
theorem alg_one (hX : Wds X) (hY : Wds Y) (hZ : Wds Z) : lessW X (orW Y Z) = lessW (lessW X Y) Z := by
  refine eq_of_mem (wds_less hX (wds_or hY hZ)) (wds_less (wds_less hX hY) hZ) fun m => ?_
  rw [mem_less hX (wds_or hY hZ), mem_or hY hZ, mem_less (wds_less hX hY) hZ, mem_less hX hY, not_or, and_assoc]
theorem alg_two (hX : Wds X) (hY : Wds Y) (hZ : Wds Z) : lessW X (andW Y Z) = orW (lessW X Y) (lessW X Z) := by
  refine eq_of_mem (wds_less hX (wds_and hY hZ)) (wds_or (wds_less hX hY) (wds_less hX hZ)) fun m => ?_
  rw [mem_less hX (wds_and hY hZ), mem_and hY hZ, mem_or (wds_less hX hY) (wds_less hX hZ), mem_less hX hY, mem_less hX hZ]
  by_cases h1 : m ∈ nodesW X <;> by_cases h2 : m ∈ nodesW Y <;> by_cases h3 : m ∈ nodesW Z <;> simp [h1, h2, h3]
theorem alg_three (hX : Wds X) (hY : Wds Y) (hZ : Wds Z) : andW X (orW Y Z) = orW (andW X Y) (andW X Z) := by
  refine eq_of_mem (wds_and hX (wds_or hY hZ)) (wds_or (wds_and hX hY) (wds_and hX hZ)) fun m => ?_
  rw [mem_and hX (wds_or hY hZ), mem_or hY hZ, mem_or (wds_and hX hY) (wds_and hX hZ), mem_and hX hY, mem_and hX hZ]
  by_cases h1 : m ∈ nodesW X <;> by_cases h2 : m ∈ nodesW Y <;> by_cases h3 : m ∈ nodesW Z <;> simp [h1, h2, h3]
theorem alg_four (hX : Wds X) (hY : Wds Y) : popW (lessW (andW X Y) X) = 0 := by
  rw [← nodes_len, List.length_eq_zero_iff]
  refine List.eq_nil_iff_forall_not_mem.2 fun m h => ?_
  rw [mem_less (wds_and hX hY) hX, mem_and hX hY] at h
  exact h.2 h.1.1
theorem nodes_filter (hX : Wds X) : nodesW X = (List.range 4096).filter (fun m => hasW X m) := by
  refine up_ext (nodes_up _) (List.Pairwise.filter _ List.pairwise_lt_range) fun m => ?_
  rw [mem_nodes, List.mem_filter, List.mem_range]
  exact ⟨fun h => ⟨by have := has_lt h; rw [hX.len] at this; exact this, h⟩, fun h => h.2⟩
theorem filter_count (p q r s : Nat → Bool) : ∀ (l : List Nat), (∀ m ∈ l, r m = (p m || q m)) → (∀ m ∈ l, s m = (q m && !p m)) → (l.filter r).length = (l.filter p).length + (l.filter s).length
  | [], _, _ => rfl
  | m :: l, h1, h2 => by
    have ih := filter_count p q r s l (fun m hm => h1 m (by simp [hm])) (fun m hm => h2 m (by simp [hm]))
    have e1 := h1 m (by simp)
    have e2 := h2 m (by simp)
    simp only [List.filter_cons, e1, e2]
    cases p m <;> cases q m <;> simp [ih] <;> omega
theorem alg_five (hX : Wds X) (hY : Wds Y) : popW (orW X Y) = popW X + popW (lessW Y X) := by
  rw [← nodes_len, ← nodes_len, ← nodes_len, nodes_filter (wds_or hX hY), nodes_filter hX, nodes_filter (wds_less hY hX)]
  refine filter_count (fun m => hasW X m) (fun m => hasW Y m) _ _ _ (fun m _ => ?_) (fun m _ => ?_)
  · have := mem_or hX hY (m := m)
    rw [mem_nodes, mem_nodes, mem_nodes] at this
    rw [Bool.eq_iff_iff, Bool.or_eq_true]
    exact this
  · have := mem_less hY hX (m := m)
    rw [mem_nodes, mem_nodes, mem_nodes] at this
    rw [Bool.eq_iff_iff, Bool.and_eq_true, Bool.not_eq_true', ← Bool.not_eq_true]
    exact this
theorem or_nodes (hX : Wds X) (hY : Wds Y) {L : List Int} (hL : UpI L) (h : ∀ m, m ∈ L ↔ m ∈ nodesI X ∨ m ∈ nodesI Y) : L = nodesI (orW X Y) := by
  refine intl_ext hL (nodesI_up _) fun m => ?_
  rw [h, mem_nodesI, mem_nodesI, mem_nodesI, mem_or hX hY]
  constructor
  · rintro (⟨a, b⟩ | ⟨a, b⟩)
    · exact ⟨a, .inl b⟩
    · exact ⟨a, .inr b⟩
  · rintro ⟨a, b | b⟩
    · exact .inl ⟨a, b⟩
    · exact .inr ⟨a, b⟩
theorem and_nodes (hX : Wds X) (hY : Wds Y) : (nodesI X).filter (fun x => (nodesI Y).contains x) = nodesI (andW X Y) := by
  refine intl_ext (List.Pairwise.filter _ (nodesI_up _)) (nodesI_up _) fun m => ?_
  rw [List.mem_filter, List.contains_iff_mem, mem_nodesI, mem_nodesI, mem_nodesI, mem_and hX hY]
  exact ⟨fun ⟨⟨a, b⟩, _, c⟩ => ⟨a, b, c⟩, fun ⟨a, b, c⟩ => ⟨⟨a, b⟩, a, c⟩⟩
theorem less_nodes (hX : Wds X) (hY : Wds Y) : (nodesI X).filter (fun x => !(nodesI Y).contains x) = nodesI (lessW X Y) := by
  refine intl_ext (List.Pairwise.filter _ (nodesI_up _)) (nodesI_up _) fun m => ?_
  rw [List.mem_filter, Bool.not_eq_true', ← Bool.not_eq_true, List.contains_iff_mem, mem_nodesI, mem_nodesI, mem_nodesI, mem_less hX hY]
  exact ⟨fun ⟨⟨a, b⟩, c⟩ => ⟨a, b, fun h => c ⟨a, h⟩⟩, fun ⟨a, b, c⟩ => ⟨⟨a, b⟩, fun h => c h.2⟩⟩
end
end Go.Proofs.YtalfjcamjdmdjaaDoor
