/-
  Plain: ascending lists; the places of a number's bits; the nodes that a row of 64 words holds.
  No condition: plain lemmas.
-/
import Derived.Test.YtalfjcamjdmdjaaDoorBits
namespace Go.Proofs.YtalfjcamjdmdjaaDoor

abbrev Up (l : List Nat) : Prop := l.Pairwise (· < ·)
/-- ascending lists with the same elements are equal. -/
theorem up_ext : ∀ {l m : List Nat}, Up l → Up m → (∀ x, x ∈ l ↔ x ∈ m) → l = m
  | [], [], _, _, _ => rfl
  | [], b :: m, _, _, h => absurd ((h b).2 List.mem_cons_self) (by simp)
  | a :: l, [], _, _, h => absurd ((h a).1 List.mem_cons_self) (by simp)
  | a :: l, b :: m, hl, hm, h => by
    obtain ⟨hl1, hl2⟩ := List.pairwise_cons.1 hl
    obtain ⟨hm1, hm2⟩ := List.pairwise_cons.1 hm
    have hab : a = b := by
      have h1 := (h a).1 List.mem_cons_self
      have h2 := (h b).2 List.mem_cons_self
      rcases List.mem_cons.1 h1 with e | e
      · exact e
      · rcases List.mem_cons.1 h2 with e' | e'
        · exact e'.symm
        · have := hm1 a e
          have := hl1 b e'
          omega
    subst hab
    congr 1
    refine up_ext hl2 hm2 fun x => ⟨fun hx => ?_, fun hx => ?_⟩
    · rcases List.mem_cons.1 ((h x).1 (List.mem_cons_of_mem _ hx)) with e | e
      · have := hl1 x hx
        omega
      · exact e
    · rcases List.mem_cons.1 ((h x).2 (List.mem_cons_of_mem _ hx)) with e | e
      · have := hm1 x hx
        omega
      · exact e

/-- the places of the bits. -/
def bl (x : Nat) : List Nat := (List.range 64).filter (fun i => x.testBit i)
theorem bl_up (x : Nat) : Up (bl x) := List.Pairwise.filter _ List.pairwise_lt_range
theorem mem_bl {x i : Nat} : i ∈ bl x ↔ i < 64 ∧ x.testBit i = true := by unfold bl; simp
theorem bits_count (n : Nat) : ∀ x, ((List.range n).filter (fun i => x.testBit i)).length = sd 2 n x := by
  induction n with
  | zero => intro x; rfl
  | succ n ih =>
    intro x
    rw [List.range_succ_eq_map, List.filter_cons, List.filter_map, sd]
    have e : ((fun i => x.testBit i) ∘ Nat.succ) = fun i => (x / 2).testBit i := by
      funext i
      simp [Nat.testBit_succ]
    rw [e]
    have h := ih (x / 2)
    rcases Nat.mod_two_eq_zero_or_one x with hx | hx
    · rw [if_neg (by simp [Nat.testBit_zero, hx])]
      simp [h, hx]
    · rw [if_pos (by simp [Nat.testBit_zero, hx])]
      simp [h, hx]
      omega
theorem bl_len (x : Nat) : (bl x).length = pop x := bits_count 64 x
theorem bl_zero : bl 0 = [] := by
  unfold bl
  simp
theorem pop_le (x : Nat) : pop x ≤ 64 := by
  rw [← bl_len]
  exact Nat.le_trans (List.length_filter_le _ _) (by simp)

/-- the lowest bit struck. -/
theorem strike {x : Nat} (h0 : x ≠ 0) (h : x < 18446744073709551616) : bl x = Lib.ctz 64 x :: bl (x &&& (x - 1)) ∧ x &&& (x - 1) < x ∧ Lib.ctz 64 x < 64 := by
  obtain ⟨m, hm, hk⟩ := Lib.ctzFrom_spec 64 x (by omega) h
  have e : Lib.ctz 64 x = Lib.ctzFrom 64 x := by simp [Lib.ctz, h0]
  rw [e]
  generalize Lib.ctzFrom 64 x = k at hm hk ⊢
  have hp : 0 < 2 ^ k := Nat.two_pow_pos k
  have hx1 : x - 1 = 2 ^ k * (2 * m) + (2 ^ k - 1) := by
    rw [hm, Nat.mul_add]
    omega
  have hx0 : x = 2 ^ k * (2 * m + 1) + 0 := by rw [hm]; rfl
  have hand : x &&& (x - 1) = 2 ^ k * (2 * m) := by
    rw [hx1]
    have h1 := and_split k (2 * m + 1) (2 * m) (b := 0) (d := 2 ^ k - 1) hp (by omega)
    rw [← hx0, Nat.zero_and, Nat.add_zero] at h1
    rw [h1]
    have h2 := and_split 1 m m (b := 1) (d := 0) (by decide) (by decide)
    simp only [Nat.pow_one, Nat.add_zero, Nat.and_self, Nat.and_zero] at h2
    rw [h2]
  have htb : ∀ i, (x &&& (x - 1)).testBit i = (x.testBit i && decide (i ≠ k)) := by
    intro i
    rw [hand, hm, Nat.mul_comm, Nat.mul_comm (2 ^ k), Nat.testBit_mul_two_pow, Nat.testBit_mul_two_pow]
    by_cases hik : k ≤ i
    · by_cases hi : i = k
      · subst hi
        simp
      · obtain ⟨j, rfl⟩ : ∃ j, i = k + (j + 1) := ⟨i - k - 1, by omega⟩
        have e3 : k + (j + 1) - k = j + 1 := by omega
        rw [e3, Nat.testBit_succ, Nat.testBit_succ, show 2 * m / 2 = m by omega, show (2 * m + 1) / 2 = m by omega]
        simp
    · simp [hik]
  have hkb : x.testBit k = true := by
    rw [hm, Nat.mul_comm, Nat.testBit_mul_two_pow]
    simp
  have hlow : ∀ i, i < k → x.testBit i = false := by
    intro i hi
    rw [hm, Nat.mul_comm, Nat.testBit_mul_two_pow]
    simp
    omega
  refine ⟨up_ext (bl_up x) (List.pairwise_cons.2 ⟨fun i hi => ?_, bl_up _⟩) fun i => ?_, ?_, hk⟩
  · obtain ⟨_, h2⟩ := mem_bl.1 hi
    rw [htb] at h2
    simp only [Bool.and_eq_true, decide_eq_true_eq] at h2
    rcases Nat.lt_or_ge i k with hlt | hge
    · rw [hlow i hlt] at h2
      exact absurd h2.1 (by simp)
    · omega
  · rw [List.mem_cons, mem_bl, mem_bl, htb]
    by_cases hi : i = k
    · subst hi
      simp [hk, hkb]
    · simp [hi]
  · rw [hand, hm, Nat.mul_add]
    omega

/-- the nodes that words hold, the first word standing for the nodes from 64 k on. -/
def nodesFrom : Nat → List Nat → List Nat
  | _, [] => []
  | k, x :: r => (bl x).map (64 * k + ·) ++ nodesFrom (k + 1) r
def nodesW (W : List Nat) : List Nat := nodesFrom 0 W
def hasW (W : List Nat) (n : Nat) : Bool := (W.getD (n / 64) 0).testBit (n % 64)
theorem mem_from : ∀ (W : List Nat) (k n : Nat), n ∈ nodesFrom k W ↔ 64 * k ≤ n ∧ hasW W (n - 64 * k) = true
  | [], k, n => by simp [nodesFrom, hasW]
  | x :: r, k, n => by
    rw [nodesFrom, List.mem_append, mem_from r (k + 1) n]
    constructor
    · rintro (h | ⟨h1, h2⟩)
      · obtain ⟨i, hi, rfl⟩ := List.mem_map.1 h
        obtain ⟨h1, h2⟩ := mem_bl.1 hi
        refine ⟨by omega, ?_⟩
        unfold hasW
        rw [show (64 * k + i - 64 * k) / 64 = 0 by omega, show (64 * k + i - 64 * k) % 64 = i by omega]
        exact h2
      · refine ⟨by omega, ?_⟩
        unfold hasW at h2 ⊢
        rw [show (n - 64 * k) / 64 = (n - 64 * (k + 1)) / 64 + 1 by omega, show (n - 64 * k) % 64 = (n - 64 * (k + 1)) % 64 by omega]
        exact h2
    · rintro ⟨h1, h2⟩
      by_cases hn : n < 64 * (k + 1)
      · refine .inl (List.mem_map.2 ⟨n - 64 * k, mem_bl.2 ⟨by omega, ?_⟩, by omega⟩)
        unfold hasW at h2
        rw [show (n - 64 * k) / 64 = 0 by omega, show (n - 64 * k) % 64 = n - 64 * k by omega] at h2
        exact h2
      · refine .inr ⟨by omega, ?_⟩
        unfold hasW at h2 ⊢
        rw [show (n - 64 * k) / 64 = (n - 64 * (k + 1)) / 64 + 1 by omega, show (n - 64 * k) % 64 = (n - 64 * (k + 1)) % 64 by omega] at h2
        exact h2
theorem mem_nodes {W : List Nat} {n : Nat} : n ∈ nodesW W ↔ hasW W n = true := by
  unfold nodesW
  rw [mem_from]
  simp
theorem from_up : ∀ (W : List Nat) (k : Nat), Up (nodesFrom k W)
  | [], _ => List.Pairwise.nil
  | x :: r, k => by
    refine List.pairwise_append.2 ⟨?_, from_up r (k + 1), fun a ha b hb => ?_⟩
    · exact (bl_up x).map _ (fun a b h => by omega)
    · obtain ⟨i, hi, rfl⟩ := List.mem_map.1 ha
      have h1 := (mem_bl.1 hi).1
      have h2 := ((mem_from r (k + 1) b).1 hb).1
      omega
theorem nodes_up (W : List Nat) : Up (nodesW W) := from_up W 0
theorem has_lt {W : List Nat} {n : Nat} (h : hasW W n = true) : n < 64 * W.length := by
  unfold hasW at h
  rcases Nat.lt_or_ge (n / 64) W.length with q | q
  · omega
  · rw [List.getD_eq_getElem?_getD, List.getElem?_eq_none q] at h
    simp at h
theorem nodes_lt {W : List Nat} {n : Nat} (h : n ∈ nodesW W) : n < 64 * W.length := has_lt (mem_nodes.1 h)
/-- the number of nodes. -/
def popW : List Nat → Nat
  | [] => 0
  | x :: r => pop x + popW r
theorem from_len : ∀ (W : List Nat) (k : Nat), (nodesFrom k W).length = popW W
  | [], _ => rfl
  | x :: r, k => by rw [nodesFrom, List.length_append, List.length_map, bl_len, from_len r, popW]
theorem nodes_len (W : List Nat) : (nodesW W).length = popW W := from_len W 0
theorem popW_le : ∀ W : List Nat, popW W ≤ 64 * W.length
  | [] => Nat.le_refl _
  | x :: r => by
    have := popW_le r
    have := pop_le x
    rw [popW, List.length_cons]
    omega
theorem popW_take (W : List Nat) (k : Nat) (x : Nat) (h : W[k]? = some x) : popW (W.take (k + 1)) = popW (W.take k) + pop x := by
  induction W generalizing k with
  | nil => simp at h
  | cons y r ih =>
    cases k with
    | zero =>
      simp at h
      subst h
      simp [popW]
    | succ k =>
      have h' : r[k]? = some x := by simpa using h
      simp only [List.take_succ_cons, popW]
      rw [ih k h']
      omega

/-- a row of words. -/
structure Wds (W : List Nat) : Prop where
  len : W.length = 64
  lt : ∀ x ∈ W, x < 18446744073709551616
def zeros : List Nat := List.replicate 64 0
theorem wds_zeros : Wds zeros := ⟨by simp [zeros], fun x h => by
  have := (List.mem_replicate.1 h).2
  omega⟩
theorem words_ext {V W : List Nat} (hV : Wds V) (hW : Wds W) (h : nodesW V = nodesW W) : V = W := by
  refine List.ext_getElem (by rw [hV.len, hW.len]) fun i h1 h2 => ?_
  apply Nat.eq_of_testBit_eq
  intro j
  by_cases hj : j < 64
  · have e : ∀ (U : List Nat) (hu : i < U.length), U[i].testBit j = hasW U (64 * i + j) := fun U hu => by
      unfold hasW
      rw [show (64 * i + j) / 64 = i by omega, show (64 * i + j) % 64 = j by omega, List.getD_eq_getElem?_getD, List.getElem?_eq_getElem hu]
      rfl
    rw [e V h1, e W h2, Bool.eq_iff_iff, ← mem_nodes, ← mem_nodes, h]
  · rw [Nat.testBit_lt_two_pow (Nat.lt_of_lt_of_le (hV.lt _ (List.getElem_mem h1)) (Nat.pow_le_pow_right (n := 2) (by decide) (show 64 ≤ j by omega))), Nat.testBit_lt_two_pow (Nat.lt_of_lt_of_le (hW.lt _ (List.getElem_mem h2)) (Nat.pow_le_pow_right (n := 2) (by decide) (show 64 ≤ j by omega)))]
theorem nodes_zeros : nodesW zeros = [] := by
  refine List.eq_nil_iff_forall_not_mem.2 fun n hn => ?_
  have h := mem_nodes.1 hn
  unfold hasW zeros at h
  rw [List.getD_eq_getElem?_getD, List.getElem?_replicate] at h
  split at h <;> simp at h
end Go.Proofs.YtalfjcamjdmdjaaDoor
