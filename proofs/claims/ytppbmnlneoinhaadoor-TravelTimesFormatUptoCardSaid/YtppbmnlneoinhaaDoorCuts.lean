/-
  Plain lemmas on texts: cut at blanks, and joined again.
  No condition: plain lemmas on lists of bytes.
-/
import Derived.Test.YtppbmnlneoinhaaDoorNum
import Derived.Lib.IndexMore
import Derived.Lib.Split
import Derived.Lib.Join
namespace Go.Proofs.YtppbmnlneoinhaaDoor


theorem index_at {c : UInt8} {t r : List UInt8} : ∀ {p : List UInt8}, c ∉ p → Lib.index (p ++ ((c :: t) ++ r)) (c :: t) = p.length
  | [], _ => by
    simp [Lib.index, List.isPrefixOf]
  | b :: p, h => by
    have hb : c ≠ b := fun e => h (by simp [e])
    have ih := index_at (c := c) (t := t) (r := r) (p := p) (fun e => h (by simp [e]))
    rw [List.cons_append]
    unfold Lib.index
    rw [ih]
    have h1 : (c :: t).isPrefixOf (b :: (p ++ (c :: t ++ r))) = false := by simp [List.isPrefixOf, hb]
    rw [h1]
    simp only [Bool.false_eq_true, if_false, List.length_cons]
    rw [if_neg (by simp)]
    omega
theorem index_miss {c : UInt8} : ∀ {p : List UInt8}, c ∉ p → Lib.index p [c] = -1
  | [], _ => by simp [Lib.index]
  | b :: p, h => by
    have hb : c ≠ b := fun e => h (by simp [e])
    have ih := index_miss (c := c) (p := p) (fun e => h (by simp [e]))
    unfold Lib.index
    rw [ih]
    have h1 : [c].isPrefixOf (b :: p) = false := by simp [List.isPrefixOf, hb]
    rw [h1]
    rfl
theorem join_two (p q : List UInt8) (r : List (List UInt8)) : Lib.join (p :: q :: r) [32] = p ++ (([32] : List UInt8) ++ Lib.join (q :: r) [32]) := by
  rw [Lib.join_cons, Lib.join_cons]
  simp [Lib.joinTail]
theorem split_join : ∀ (ps : List (List UInt8)) (k : Nat), ps ≠ [] → (∀ p ∈ ps, (32 : UInt8) ∉ p) → ps.length ≤ k + 1 → Lib.splitK [32] 0 k (Lib.join ps [32]) = ps
  | [], _, h, _, _ => absurd rfl h
  | [p], k, _, hn, _ => by
    rw [Lib.join_one]
    cases k with
    | zero => rfl
    | succ k =>
      unfold Lib.splitK
      rw [index_miss (hn p (by simp))]
      rfl
  | p :: q :: r, k, _, hn, hk => by
    cases k with
    | zero => simp at hk
    | succ k =>
      rw [join_two]
      unfold Lib.splitK
      rw [index_at (hn p (by simp)), if_neg (by simp)]
      have ih := split_join (q :: r) k (by simp) (fun x hx => hn x (by simp at hx ⊢; right; exact hx)) (by simp at hk ⊢; omega)
      have e1 : List.drop (Int.toNat (p.length : Int) + ([32] : List UInt8).length) (p ++ (([32] : List UInt8) ++ Lib.join (q :: r) [32])) = Lib.join (q :: r) [32] := by simp
      rw [e1, ih]
      simp
theorem join_room : ∀ (ps : List (List UInt8)), ps.length ≤ (Lib.join ps [32]).length + 1
  | [] => by simp
  | [p] => by simp
  | p :: q :: r => by
    have ih := join_room (q :: r)
    rw [join_two]
    simp only [List.length_cons, List.length_append] at ih ⊢
    simp only [List.length_nil]
    omega
theorem splitK_ne (sep : List UInt8) (sv k : Nat) (s : List UInt8) : Lib.splitK sep sv k s ≠ [] := by
  cases k with
  | zero => simp [Lib.splitK]
  | succ k =>
    unfold Lib.splitK
    split <;> simp
theorem at_index {s : List UInt8} {i : Nat} (h : Lib.occAt s [32] i = true) : s.take i ++ (([32] : List UInt8) ++ s.drop (i + 1)) = s := by
  unfold Lib.occAt at h
  rw [List.isPrefixOf_iff_prefix] at h
  obtain ⟨t, ht⟩ := h
  have e : s.drop (i + 1) = t := by
    have : s.drop (i + 1) = (s.drop i).drop 1 := by rw [List.drop_drop]
    rw [this, ← ht]
    rfl
  rw [e, ht, List.take_append_drop]
theorem join_split : ∀ (k : Nat) (s : List UInt8), Lib.join (Lib.splitK [32] 0 k s) [32] = s
  | 0, s => Lib.join_one _ _
  | k + 1, s => by
    unfold Lib.splitK
    split
    · exact Lib.join_one _ _
    · rename_i h
      rcases Lib.index_spec s [32] with ⟨h1, _⟩ | ⟨i, h1, _, h3, _⟩
      · exact absurd (beq_iff_eq.2 h1) h
      have ih := join_split k (s.drop (i + 1))
      obtain ⟨q, r, hqr⟩ := List.exists_cons_of_ne_nil (splitK_ne [32] 0 k (s.drop (i + 1)))
      rw [h1]
      have e : Int.toNat (i : Int) + ([32] : List UInt8).length = i + 1 := by simp
      rw [e, hqr, join_two, ← hqr, ih]
      simp only [Int.toNat_natCast, Nat.add_zero]
      exact at_index h3
/-- a text cut at every blank. -/
def cutsFrom : List UInt8 → List UInt8 → List (List UInt8)
  | cur, [] => [cur]
  | cur, c :: r => if c = 32 then cur :: cutsFrom [] r else cutsFrom (cur ++ [c]) r
theorem cuts_ne (cur l : List UInt8) : cutsFrom cur l ≠ [] := by
  induction l generalizing cur with
  | nil => simp [cutsFrom]
  | cons c r ih =>
    unfold cutsFrom
    split
    · simp
    · exact ih _
theorem cuts_len (cur l : List UInt8) : (cutsFrom cur l).length ≤ l.length + 1 := by
  induction l generalizing cur with
  | nil => simp [cutsFrom]
  | cons c r ih =>
    unfold cutsFrom
    split
    · have := ih []
      simp
      omega
    · have := ih (cur ++ [c])
      simp
      omega
theorem cuts_small (cur l : List UInt8) : ∀ x ∈ cutsFrom cur l, x.length ≤ cur.length + l.length := by
  induction l generalizing cur with
  | nil => intro x hx; simp [cutsFrom] at hx; subst hx; simp
  | cons c r ih =>
    intro x hx
    unfold cutsFrom at hx
    split at hx
    · rcases List.mem_cons.1 hx with rfl | hx
      · simp
      · have := ih [] x hx
        simp at this ⊢
        omega
    · have := ih _ x hx
      simp at this ⊢
      omega
theorem join_cuts (cur l : List UInt8) : Lib.join (cutsFrom cur l) [32] = cur ++ l := by
  induction l generalizing cur with
  | nil => simp [cutsFrom, Lib.join_one]
  | cons c r ih =>
    unfold cutsFrom
    split
    · rename_i e
      subst e
      have h := ih []
      obtain ⟨q, t, hqt⟩ := List.exists_cons_of_ne_nil (cuts_ne [] r)
      rw [hqt] at h ⊢
      rw [join_two, h]
      simp
    · rw [ih]
      simp
theorem cuts_plain (p : List UInt8) (h : (32 : UInt8) ∉ p) : ∀ cur r, cutsFrom cur (p ++ r) = cutsFrom (cur ++ p) r := by
  induction p with
  | nil => intro cur r; simp
  | cons c t ih =>
    intro cur r
    have hc : c ≠ 32 := fun e => h (by simp [e])
    rw [List.cons_append, cutsFrom, if_neg hc, ih (fun e => h (by simp [e]))]
    simp
theorem cuts_join : ∀ (ps : List (List UInt8)), ps ≠ [] → (∀ p ∈ ps, (32 : UInt8) ∉ p) → cutsFrom [] (Lib.join ps [32]) = ps
  | [], h, _ => absurd rfl h
  | [p], _, hn => by
    rw [Lib.join_one]
    have := cuts_plain p (hn p (by simp)) [] []
    simp at this
    rw [this]
    rfl
  | p :: q :: r, _, hn => by
    have ih := cuts_join (q :: r) (by simp) (fun x hx => hn x (by simp at hx ⊢; right; exact hx))
    rw [join_two, cuts_plain p (hn p (by simp))]
    rw [List.nil_append, List.singleton_append, cutsFrom, if_pos rfl, ih]
end Go.Proofs.YtppbmnlneoinhaaDoor
