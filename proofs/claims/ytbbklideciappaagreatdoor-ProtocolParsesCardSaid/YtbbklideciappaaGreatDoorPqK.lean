/-
  Lines cut into words; what a header and an answer are, piece by piece (plain).
-/
import Derived.Test.YtbbklideciappaaGreatDoorPqN
import Derived.Lib.SplitLaws
namespace Go.Proofs.YtbbklideciappaaGreatDoor
open Go.RowKit

theorem cutC_hit {c : UInt8} {p : List UInt8} (h : c ∉ p) (r : List UInt8) : Lib.cut (p ++ c :: r) [c] = (p, r, true) := by
  have e : Lib.index (p ++ c :: r) [c] = p.length := index_at (c := c) (t := []) (r := r) h
  unfold Lib.cut
  rw [e, if_pos (by omega)]
  simp
theorem cutC_miss {c : UInt8} {s : List UInt8} (h : c ∉ s) : Lib.cut s [c] = (s, [], false) := by
  unfold Lib.cut
  rw [index_miss h, if_neg (by omega)]
theorem cutC_cases (c : UInt8) (s : List UInt8) : (c ∉ s ∧ Lib.cut s [c] = (s, [], false)) ∨ ∃ p r, c ∉ p ∧ s = p ++ c :: r ∧ Lib.cut s [c] = (p, r, true) := by
  by_cases h : c ∈ s
  · obtain ⟨p, r, e, hp⟩ := List.eq_append_cons_of_mem h
    exact .inr ⟨p, r, hp, e, by rw [e]; exact cutC_hit hp r⟩
  · exact .inl ⟨h, cutC_miss h⟩
theorem join_two (p q : List UInt8) (r : List (List UInt8)) : Lib.join (p :: q :: r) [32] = p ++ (([32] : List UInt8) ++ Lib.join (q :: r) [32]) := by
  rw [Lib.join_cons, Lib.join_cons]
  simp [Lib.joinTail]
theorem split_join : ∀ (ps : List (List UInt8)) (k : Nat), ps ≠ [] → (∀ p ∈ ps, (32 : UInt8) ∉ p) → ps.length ≤ k + 1 → Lib.splitK [32] 0 k (Lib.join ps [32]) = ps
  | [], _, h, _, _ => absurd rfl h
  | [p], k, _, hn, _ => by
    rw [Lib.join_one]
    cases k with
    | zero => rfl
    | succ k =>
      unfold Lib.splitK
      rw [index_miss (hn p (by simp))]
      rfl
  | p :: q :: r, k, _, hn, hk => by
    cases k with
    | zero => simp at hk
    | succ k =>
      rw [join_two]
      unfold Lib.splitK
      rw [index_at (hn p (by simp)), if_neg (by simp)]
      have ih := split_join (q :: r) k (by simp) (fun x hx => hn x (by simp at hx ⊢; right; exact hx)) (by simp at hk ⊢; omega)
      have e1 : List.drop (Int.toNat (p.length : Int) + ([32] : List UInt8).length) (p ++ (([32] : List UInt8) ++ Lib.join (q :: r) [32])) = Lib.join (q :: r) [32] := by simp
      rw [e1, ih]
      simp
theorem split_ne (k : Nat) (l : List UInt8) : Lib.splitK [32] 0 k l ≠ [] := by
  cases k with
  | zero => simp [Lib.splitK]
  | succ k =>
    unfold Lib.splitK
    split <;> simp
theorem join_split : ∀ (k : Nat) (l : List UInt8), Lib.join (Lib.splitK [32] 0 k l) [32] = l
  | 0, l => by simp [Lib.splitK, Lib.join_one]
  | k + 1, l => by
    by_cases h : (32 : UInt8) ∈ l
    · obtain ⟨p, r, e, hp⟩ := List.eq_append_cons_of_mem h
      have ei : Lib.index l [32] = p.length := by rw [e]; exact index_at (c := 32) (t := []) (r := r) hp
      have h1 : Lib.splitK [32] 0 (k + 1) l = p :: Lib.splitK [32] 0 k r := by
        have e1 : List.drop (Int.toNat (p.length : Int) + ([32] : List UInt8).length) l = r := by rw [e]; simp
        have e2 : List.take (Int.toNat (p.length : Int) + 0) l = p := by rw [e]; simp
        show (if Lib.index l [32] == -1 then [l] else _) = _
        rw [ei, if_neg (by simp), e1, e2]
      rw [h1]
      have ih := join_split k r
      cases hq : Lib.splitK [32] 0 k r with
      | nil => exact absurd hq (split_ne k r)
      | cons q t =>
        rw [hq] at ih
        rw [join_two, ih, e]
        rfl
    · have h1 : Lib.splitK [32] 0 (k + 1) l = [l] := by
        unfold Lib.splitK
        rw [index_miss h]
        rfl
      rw [h1, Lib.join_one]
theorem join_three (a b c : List UInt8) : Lib.join [a, b, c] [32] = a ++ ([32] ++ (b ++ ([32] ++ c))) := by
  rw [join_two, join_two, Lib.join_one]
theorem dec_none32 (z : Int) : (32 : UInt8) ∉ dec z := dec_none no32
/-- a header's words. -/
theorem head_words {l : List UInt8} {n : ByteArray} {v : Int} (h : IsHead l n v) : Lib.splitK [32] 0 (min 4 (l.length + 1) - 1) l = [wProt, n.data.toList, dec v] := by
  obtain ⟨h1, h2, h3⟩ := h
  have e : l = Lib.join [wProt, n.data.toList, dec v] [32] := by rw [join_three]; exact h1
  have hl : 3 ≤ l.length := by rw [h1]; unfold lHead wProt; simp
  have hk : min 4 (l.length + 1) - 1 = 3 := by omega
  rw [hk, e]
  refine split_join _ 3 (by simp) (fun p hp => ?_) (by simp)
  simp only [List.mem_cons, List.mem_nil_iff, or_false] at hp
  rcases hp with rfl | rfl | rfl
  · unfold wProt; decide
  · exact (name_none h2).1
  · exact dec_none32 v
theorem head_of {l : List UInt8} {k : Nat} {b c : List UInt8} {v : Int} (h : Lib.splitK [32] 0 k l = [wProt, b, c]) (hb : NameOk (⟨b.toArray⟩ : ByteArray)) (hc : dec v = c) (hv : VerOk v) : IsHead l ⟨b.toArray⟩ v := by
  refine ⟨?_, hb, hv⟩
  have e := join_split k l
  rw [h, join_three] at e
  rw [← e, ← hc]
  unfold lHead
  simp
/-- the last separator, by the two searches. -/
theorem sep_occ {l : List UInt8} {j : Nat} : SepAt l j ↔ Lib.occAt l [32, 62, 32] j = true ∨ Lib.occAt l [32, 61, 32] j = true := by
  have key : ∀ c : UInt8, Lib.occAt l [32, c, 32] j = true ↔ ∃ r, l.drop j = 32 :: c :: 32 :: r := by
    intro c
    unfold Lib.occAt
    rw [List.isPrefixOf_iff_prefix]
    constructor
    · rintro ⟨t, ht⟩
      exact ⟨t, ht.symm⟩
    · rintro ⟨t, ht⟩
      exact ⟨t, ht.symm⟩
  rw [key, key]
  constructor
  · rintro ⟨c, r, hc | hc, e⟩
    · subst hc; exact .inl ⟨r, e⟩
    · subst hc; exact .inr ⟨r, e⟩
  · rintro (⟨r, e⟩ | ⟨r, e⟩)
    · exact ⟨62, r, .inl rfl, e⟩
    · exact ⟨61, r, .inr rfl, e⟩
theorem occ_len {l : List UInt8} {c : UInt8} {j : Nat} (h : Lib.occAt l [32, c, 32] j = true) : j + 3 ≤ l.length := by
  unfold Lib.occAt at h
  rw [List.isPrefixOf_iff_prefix] at h
  have := h.length_le
  simp at this
  omega
theorem last_spec (l : List UInt8) (c : UInt8) : (Lib.lastIndex l [32, c, 32] = -1 ∧ ∀ j, Lib.occAt l [32, c, 32] j = false) ∨ ∃ i : Nat, i + 3 ≤ l.length ∧ Lib.lastIndex l [32, c, 32] = i ∧ Lib.occAt l [32, c, 32] i = true ∧ ∀ j, i < j → Lib.occAt l [32, c, 32] j = false := by
  have no : ∀ j, ¬ j + 3 ≤ l.length → Lib.occAt l [32, c, 32] j = false := fun j hj => by
    cases h : Lib.occAt l [32, c, 32] j with
    | false => rfl
    | true => exact absurd (occ_len h) hj
  unfold Lib.lastIndex
  by_cases hl : ([32, c, 32] : List UInt8).length ≤ l.length
  · rw [if_pos hl]
    simp at hl
    rcases Lib.lastOcc_spec l [32, c, 32] (l.length - ([32, c, 32] : List UInt8).length + 1) with ⟨h1, h2⟩ | ⟨i, h1, h2, h3, h4⟩
    · refine .inl ⟨h1, fun j => ?_⟩
      by_cases hj : j + 3 ≤ l.length
      · exact h2 j (by simp; omega)
      · exact no j hj
    · refine .inr ⟨i, occ_len h3, h2, h3, fun j hj => ?_⟩
      by_cases hj2 : j + 3 ≤ l.length
      · exact h4 j hj (by simp; omega)
      · exact no j hj2
  · rw [if_neg hl]
    simp at hl
    exact .inl ⟨rfl, fun j => no j (by omega)⟩
theorem last_max (l : List UInt8) : (max (Lib.lastIndex l [32, 62, 32]) (Lib.lastIndex l [32, 61, 32]) = -1 ∧ ∀ j, ¬ SepAt l j) ∨ ∃ i : Nat, i + 3 ≤ l.length ∧ max (Lib.lastIndex l [32, 62, 32]) (Lib.lastIndex l [32, 61, 32]) = i ∧ LastSep l i := by
  have no : ∀ j, Lib.occAt l [32, 62, 32] j = false → Lib.occAt l [32, 61, 32] j = false → ¬ SepAt l j := fun j h1 h2 h => by
    rcases sep_occ.1 h with h | h
    · rw [h1] at h; cases h
    · rw [h2] at h; cases h
  rcases last_spec l 62 with ⟨a1, a2⟩ | ⟨i, a0, a1, a2, a3⟩
  · rcases last_spec l 61 with ⟨b1, b2⟩ | ⟨k, b0, b1, b2, b3⟩
    · exact .inl ⟨by rw [a1, b1]; rfl, fun j => no j (a2 j) (b2 j)⟩
    · exact .inr ⟨k, b0, by rw [a1, b1]; omega, sep_occ.2 (.inr b2), fun j hj => no j (a2 j) (b3 j hj)⟩
  · rcases last_spec l 61 with ⟨b1, b2⟩ | ⟨k, b0, b1, b2, b3⟩
    · exact .inr ⟨i, a0, by rw [a1, b1]; omega, sep_occ.2 (.inl a2), fun j hj => no j (a3 j hj) (b2 j)⟩
    · by_cases hik : i ≤ k
      · refine .inr ⟨k, b0, by rw [a1, b1]; omega, sep_occ.2 (.inr b2), fun j hj => no j (a3 j (by omega)) (b3 j hj)⟩
      · refine .inr ⟨i, a0, by rw [a1, b1]; omega, sep_occ.2 (.inl a2), fun j hj => no j (a3 j hj) (b3 j (by omega))⟩
theorem tailA_gt {a : Ans} {r : List UInt8} (h : tailA a = 32 :: 62 :: 32 :: r) : 0 ≤ a.next ∧ dec a.next = r := by
  unfold tailA at h
  by_cases hn : 0 ≤ a.next
  · rw [if_pos hn] at h
    injection h with _ h
    injection h with _ h
    injection h with _ h
    exact ⟨hn, h⟩
  · rw [if_neg hn] at h
    injection h with _ h
    injection h with h _
    cases h
theorem tailA_eq {a : Ans} {r : List UInt8} (h : tailA a = 32 :: 61 :: 32 :: r) : ¬ 0 ≤ a.next ∧ dec a.urg ++ 32 :: a.code.data.toList = r := by
  unfold tailA at h
  by_cases hn : 0 ≤ a.next
  · rw [if_pos hn] at h
    injection h with _ h
    injection h with h _
    cases h
  · rw [if_neg hn] at h
    injection h with _ h
    injection h with _ h
    injection h with _ h
    exact ⟨hn, h⟩
theorem ans_cut {x : List UInt8} {i : Nat} (hs : LastSep x i) {a : Ans} (h : IsAns x a) : a.text.data.toList = x.take i ∧ tailA a = x.drop i := by
  have e := (sep_body h.2)
  rw [← h.1] at e
  have e := e.uni hs
  have h1 := h.1
  unfold bodyA at h1
  rw [← e, h1]
  simp
theorem ans_none {x : List UInt8} (h : ∀ j, ¬ SepAt x j) (a : Ans) : ¬ IsAns x a := fun q => h _ (by rw [q.1]; exact (sep_body q.2).1)
theorem ans_gt {x rest : List UInt8} {i : Nat} (hs : LastSep x i) (hd : x.drop i = 32 :: 62 :: 32 :: rest) {a : Ans} : IsAns x a ↔ (PhraseOk a.text 100 ∧ a.text.data.toList = x.take i) ∧ (0 ≤ a.next ∧ a.next < 64) ∧ dec a.next = rest ∧ a.urg = 0 ∧ a.code.size = 0 := by
  constructor
  · intro h
    obtain ⟨h1, h2⟩ := ans_cut hs h
    obtain ⟨h3, h4⟩ := tailA_gt (h2.trans hd)
    rcases h.2.2 with q | q
    · omega
    · exact ⟨⟨h.2.1, h1⟩, q.1, h4, q.2.1, q.2.2⟩
  · rintro ⟨⟨h1, h2⟩, h3, h4, h5, h6⟩
    refine ⟨?_, h1, .inr ⟨h3, h5, h6⟩⟩
    unfold bodyA tailA
    rw [if_pos h3.1, h4, ← hd, h2, List.take_append_drop]
theorem ans_eq {x rest : List UInt8} {i : Nat} (hs : LastSep x i) (hd : x.drop i = 32 :: 61 :: 32 :: rest) {a : Ans} : IsAns x a ↔ (PhraseOk a.text 100 ∧ a.text.data.toList = x.take i) ∧ a.next = -1 ∧ (1 ≤ a.urg ∧ a.urg ≤ 5) ∧ CodeOk a.code ∧ rest = dec a.urg ++ 32 :: a.code.data.toList := by
  constructor
  · intro h
    obtain ⟨h1, h2⟩ := ans_cut hs h
    obtain ⟨h3, h4⟩ := tailA_eq (h2.trans hd)
    rcases h.2.2 with q | q
    · exact ⟨⟨h.2.1, h1⟩, q.1, q.2.1, q.2.2, h4.symm⟩
    · omega
  · rintro ⟨⟨h1, h2⟩, h3, h4, h5, h6⟩
    refine ⟨?_, h1, .inl ⟨h3, h4, h5⟩⟩
    unfold bodyA tailA
    rw [if_neg (by omega), ← h6, ← hd, h2, List.take_append_drop]
theorem sep_at {x : List UInt8} {i : Nat} (h : SepAt x i) : ∃ c, (c = 62 ∨ c = 61) ∧ i + 3 ≤ x.length ∧ x[i + 1]? = some c ∧ x.drop i = 32 :: c :: 32 :: x.drop (i + 3) := by
  obtain ⟨c, r, hc, e⟩ := h
  have hl : (x.drop i).length = r.length + 3 := by rw [e]; rfl
  rw [List.length_drop] at hl
  refine ⟨c, hc, by omega, ?_, ?_⟩
  · have h1 : (x.drop i)[1]? = some c := by rw [e]; rfl
    rwa [List.getElem?_drop] at h1
  · have h2 : (x.drop i).drop 3 = r := by rw [e]; rfl
    rw [List.drop_drop] at h2
    rw [h2, e]
end Go.Proofs.YtbbklideciappaaGreatDoor
