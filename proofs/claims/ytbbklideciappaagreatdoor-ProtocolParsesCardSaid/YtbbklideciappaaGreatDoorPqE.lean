/-
  The questions that can follow, in plain Lean: ascending, without duplicates.
-/
import Derived.Test.YtbbklideciappaaGreatDoorPqA
import Derived.Lib.SlicesCompact
namespace Go.Proofs.YtbbklideciappaaGreatDoor
open Go.RowKit

/-- the numbers of an answer list that are questions. -/
def nexts (xs : List Ans) : List Int := (xs.filter fun a => decide (0 ≤ a.next)).map (·.next)
theorem nexts_snoc (xs : List Ans) (a : Ans) : nexts (xs ++ [a]) = nexts xs ++ if 0 ≤ a.next then [a.next] else [] := by
  unfold nexts
  rw [List.filter_append, List.map_append]
  by_cases h : 0 ≤ a.next <;> simp [h]
theorem nexts_len (xs : List Ans) : (nexts xs).length ≤ xs.length := by
  unfold nexts
  rw [List.length_map]
  exact List.length_filter_le _ _
theorem mem_nexts {xs : List Ans} {z : Int} : z ∈ nexts xs ↔ 0 ≤ z ∧ ∃ a ∈ xs, a.next = z := by
  unfold nexts
  rw [List.mem_map]
  constructor
  · rintro ⟨a, ha, rfl⟩
    rw [List.mem_filter] at ha
    exact ⟨by simpa using ha.2, a, ha.1, rfl⟩
  · rintro ⟨h, a, ha, rfl⟩
    exact ⟨a, List.mem_filter.2 ⟨ha, by simpa using h⟩, rfl⟩
def Asc (L : List Int) : Prop := L.Pairwise (· < ·)
def NextOf (xs : List Ans) (L : List Int) : Prop := Asc L ∧ ∀ z, z ∈ L ↔ z ∈ nexts xs
theorem asc_uni : ∀ {L M : List Int}, Asc L → Asc M → (∀ z, z ∈ L ↔ z ∈ M) → L = M
  | [], [], _, _, _ => rfl
  | [], m :: M, _, _, h => by have := (h m).2 (by simp); cases this
  | l :: L, [], _, _, h => by have := (h l).1 (by simp); cases this
  | l :: L, m :: M, h1, h2, h => by
    obtain ⟨a1, a2⟩ := List.pairwise_cons.1 h1
    obtain ⟨b1, b2⟩ := List.pairwise_cons.1 h2
    have e : l = m := by
      have h3 := (h l).1 (by simp)
      have h4 := (h m).2 (by simp)
      rcases List.mem_cons.1 h3 with q | q
      · exact q
      · rcases List.mem_cons.1 h4 with r | r
        · exact r.symm
        · have := a1 m r
          have := b1 l q
          omega
    subst e
    rw [asc_uni a2 b2 (fun z => ?_)]
    have h5 := h z
    simp only [List.mem_cons] at h5
    constructor
    · intro hz
      rcases h5.1 (.inr hz) with q | q
      · have := a1 z hz; omega
      · exact q
    · intro hz
      rcases h5.2 (.inr hz) with q | q
      · have := b1 z hz; omega
      · exact q
theorem NextOf.uni {xs : List Ans} {L M : List Int} (h : NextOf xs L) (k : NextOf xs M) : L = M := asc_uni h.1 k.1 (fun z => (h.2 z).trans (k.2 z).symm)
theorem compact_asc {d : Array Int} (hs : ∀ i j, i ≤ j → j < d.size → d[i]! ≤ d[j]!) : ∀ m, m ≤ d.size → Asc (Lib.compactUpTo d m) ∧ ∀ x, x ∈ Lib.compactUpTo d m ↔ ∃ j, j < m ∧ d[j]! = x := by
  intro m
  induction m with
  | zero => intro _; exact ⟨List.Pairwise.nil, fun x => ⟨(fun h => by cases h), (fun ⟨j, h, _⟩ => absurd h (Nat.not_lt_zero _))⟩⟩
  | succ m ih =>
    intro hm
    obtain ⟨h1, h2⟩ := ih (by omega)
    rw [Lib.compactUpTo_succ]
    by_cases hk : Lib.keeps d m = true
    · rw [if_pos hk]
      have hlt : ∀ x ∈ Lib.compactUpTo d m, x < d[m]! := by
        intro x hx
        obtain ⟨j, hj, e⟩ := (h2 x).1 hx
        have h3 := hs j (m - 1) (by omega) (by omega)
        have h4 := hs (m - 1) m (by omega) (by omega)
        have h5 : d[m]! ≠ d[m - 1]! := fun e => by
          rw [Lib.keeps_neg (by omega) e] at hk
          cases hk
        omega
      refine ⟨List.pairwise_append.2 ⟨h1, List.pairwise_singleton _ _, fun a ha b hb => ?_⟩, fun x => ?_⟩
      · rw [List.mem_singleton.1 hb]
        exact hlt a ha
      · rw [List.mem_append, List.mem_singleton, h2]
        constructor
        · rintro (⟨j, hj, e⟩ | e)
          · exact ⟨j, by omega, e⟩
          · exact ⟨m, by omega, e.symm⟩
        · rintro ⟨j, hj, e⟩
          by_cases q : j = m
          · subst q; exact .inr e.symm
          · exact .inl ⟨j, by omega, e⟩
    · rw [if_neg hk, List.append_nil]
      have hm0 : 0 < m := by
        rcases Nat.eq_zero_or_pos m with q | q
        · subst q
          exact absurd (Lib.keeps_lt_one d 0 (by omega)) hk
        · exact q
      have heq : d[m]! = d[m - 1]! := by
        by_cases q : d[m]! = d[m - 1]!
        · exact q
        · exact absurd (Lib.keeps_pos q) hk
      refine ⟨h1, fun x => ?_⟩
      rw [h2]
      constructor
      · rintro ⟨j, hj, e⟩
        exact ⟨j, by omega, e⟩
      · rintro ⟨j, hj, e⟩
        by_cases q : j = m
        · subst q; exact ⟨j - 1, by omega, by rw [← heq]; exact e⟩
        · exact ⟨j, by omega, e⟩
theorem sort_next (xs : List Ans) : NextOf xs (Lib.compact ((nexts xs).mergeSort fun x y => decide (x ≤ y))) := by
  have hp := List.mergeSort_perm (nexts xs) (fun x y => decide (x ≤ y))
  have hs : ((nexts xs).mergeSort fun x y => decide (x ≤ y)).Pairwise (fun a b => decide (a ≤ b) = true) :=
    List.pairwise_mergeSort (fun a b c h1 h2 => by simp at h1 h2 ⊢; omega) (fun a b => by simp; omega) _
  obtain ⟨S, hS⟩ : ∃ S, S = (nexts xs).mergeSort fun x y => decide (x ≤ y) := ⟨_, rfl⟩
  rw [← hS] at hp hs ⊢
  have hd : ∀ i j, i ≤ j → j < S.toArray.size → S.toArray[i]! ≤ S.toArray[j]! := by
    intro i j hij hj
    have hj' : j < S.length := by simpa using hj
    rcases Nat.lt_or_ge i j with q | q
    · have := List.pairwise_iff_getElem.1 hs i j (by omega) hj' q
      simp only [decide_eq_true_eq] at this
      simpa [getElem!_pos, hj', show i < S.length by omega] using this
    · have : i = j := by omega
      subst this
      exact Int.le_refl _
  obtain ⟨h1, h2⟩ := compact_asc hd S.length (by simp)
  refine ⟨h1, fun z => ?_⟩
  rw [← hp.mem_iff]
  unfold Lib.compact
  rw [h2, List.mem_iff_getElem]
  constructor
  · rintro ⟨j, hj, e⟩
    exact ⟨j, hj, by simpa [getElem!_pos, hj] using e⟩
  · rintro ⟨j, hj, e⟩
    exact ⟨j, hj, by simpa [getElem!_pos, hj] using e⟩
/-- one more number goes in behind the first k, which are all that are less. -/
theorem asc_insert {L : List Int} {k : Nat} {z : Int} (h : Asc L) (hl : ∀ x ∈ L.take k, x < z) (hg : ∀ x, L[k]? = some x → z < x) : Asc (L.take k ++ [z] ++ L.drop k) ∧ ∀ x, x ∈ L.take k ++ [z] ++ L.drop k ↔ x ∈ L ∨ x = z := by
  have hd : ∀ x ∈ L.drop k, z < x := by
    intro x hx
    cases hq : L.drop k with
    | nil => rw [hq] at hx; cases hx
    | cons y r =>
      have h1 : L[k]? = some y := by
        have := congrArg (·[0]?) hq
        simpa using this
      have h2 := hg y h1
      rw [hq] at hx
      rcases List.mem_cons.1 hx with rfl | hx
      · exact h2
      · have h3 : Asc (L.drop k) := List.Pairwise.drop h
        rw [hq] at h3
        have := (List.pairwise_cons.1 h3).1 x hx
        omega
  refine ⟨List.pairwise_append.2 ⟨List.pairwise_append.2 ⟨List.Pairwise.take h, List.pairwise_singleton _ _, fun a ha b hb => ?_⟩, List.Pairwise.drop h, fun a ha b hb => ?_⟩, fun x => ?_⟩
  · rw [List.mem_singleton.1 hb]
    exact hl a ha
  · have h2 := hd b hb
    rcases List.mem_append.1 ha with ha | ha
    · have := hl a ha
      omega
    · rw [List.mem_singleton.1 ha]
      exact h2
  · have h4 : x ∈ L ↔ x ∈ L.take k ∨ x ∈ L.drop k := by rw [← List.mem_append, List.take_append_drop]
    rw [List.mem_append, List.mem_append, List.mem_singleton, h4]
    constructor
    · rintro ((h | h) | h)
      · exact .inl (.inl h)
      · exact .inr h
      · exact .inl (.inr h)
    · rintro ((h | h) | h)
      · exact .inl (.inl h)
      · exact .inr h
      · exact .inl (.inr h)
/-- the list holds the numbers of the first k answers. -/
def NextTo (xs : List Ans) (k : Nat) (L : List Int) : Prop := Asc L ∧ ∀ z, z ∈ L ↔ z ∈ nexts (xs.take k)
theorem NextTo.zero {xs : List Ans} : NextTo xs 0 [] := ⟨List.Pairwise.nil, fun z => by simp [nexts]⟩
theorem mem_nexts_succ {xs : List Ans} {k : Nat} {a : Ans} (ha : xs[k]? = some a) (z : Int) : z ∈ nexts (xs.take (k + 1)) ↔ z ∈ nexts (xs.take k) ∨ (0 ≤ a.next ∧ z = a.next) := by
  obtain ⟨h1, h2⟩ := List.getElem?_eq_some_iff.1 ha
  rw [List.take_succ_eq_append_getElem h1, h2, nexts_snoc, List.mem_append]
  by_cases h : 0 ≤ a.next <;> simp [h]
theorem NextTo.skip {xs : List Ans} {k : Nat} {L : List Int} {a : Ans} (h : NextTo xs k L) (ha : xs[k]? = some a) (hn : a.next < 0 ∨ a.next ∈ L) : NextTo xs (k + 1) L := by
  refine ⟨h.1, fun z => ?_⟩
  rw [mem_nexts_succ ha, h.2]
  constructor
  · exact .inl
  · rintro (q | ⟨q1, q2⟩)
    · exact q
    · rcases hn with hn | hn
      · omega
      · rw [q2]
        exact (h.2 _).1 hn
theorem NextTo.put {xs : List Ans} {k j : Nat} {L : List Int} {a : Ans} (h : NextTo xs k L) (ha : xs[k]? = some a) (h0 : 0 ≤ a.next) (hl : ∀ x ∈ L.take j, x < a.next) (hg : ∀ x, L[j]? = some x → a.next < x) : NextTo xs (k + 1) (L.take j ++ [a.next] ++ L.drop j) := by
  obtain ⟨h1, h2⟩ := asc_insert h.1 hl hg
  refine ⟨h1, fun z => ?_⟩
  rw [mem_nexts_succ ha, h2, h.2]
  exact ⟨fun q => q.imp id (fun q => ⟨h0, q⟩), fun q => q.imp id (fun q => q.2)⟩
theorem NextTo.all {xs : List Ans} {L : List Int} (h : NextTo xs xs.length L) : NextOf xs L := by
  unfold NextTo at h
  rw [List.take_length] at h
  exact h
theorem NextTo.len {xs : List Ans} {k : Nat} {L : List Int} (h : NextTo xs k L) : L.length ≤ k := by
  have hn : L.Nodup := List.Pairwise.imp (fun {a b} hab e => by omega) h.1
  have h1 := List.Nodup.length_le_of_subset hn (fun z hz => (h.2 z).1 hz)
  have h2 := nexts_len (xs.take k)
  rw [List.length_take] at h2
  omega
/-- what Successors returns. -/
def NextAt (p : Prot) (z : Int) (L : List Int) : Prop := ((z < 0 ∨ p.qs.length ≤ z) ∧ L = []) ∨ ∃ q, p.qs[z.toNat]? = some q ∧ 0 ≤ z ∧ NextOf q.ans L
theorem NextAt.uni {p : Prot} {z : Int} {L M : List Int} (h : NextAt p z L) (k : NextAt p z M) : L = M := by
  rcases h with ⟨h1, rfl⟩ | ⟨q, h1, h2, h3⟩
  · rcases k with ⟨_, rfl⟩ | ⟨q, k1, k2, k3⟩
    · rfl
    · have := (List.getElem?_eq_some_iff.1 k1).1
      omega
  · rcases k with ⟨k1, rfl⟩ | ⟨r, k1, k2, k3⟩
    · have := (List.getElem?_eq_some_iff.1 h1).1
      omega
    · rw [h1] at k1
      cases k1
      exact h3.uni k3
end Go.Proofs.YtbbklideciappaaGreatDoor
