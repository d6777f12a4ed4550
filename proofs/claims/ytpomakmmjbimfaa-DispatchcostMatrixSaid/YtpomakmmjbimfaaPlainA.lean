/-
  The plain function that responseplan.Unmet computes, with its steps, and what is needed of it.
  No condition: plain lemmas on lists of integers.
-/
import Derived.Test.YtpomakmmjbimfaaMem
namespace Go.Proofs.Ytpomakmmjbimfaa

/-- how often x stands in l. -/
def cnt (l : List Int) (x : Int) : Int := (l.count x : Nat)

/-- the second loop of Unmet: the counts and what is left over. -/
def step2 (s : (Int → Int) × List Int) (x : Int) : (Int → Int) × List Int :=
  if 0 < s.1 x then (upd s.1 x (s.1 x - 1), s.2) else (s.1, s.2 ++ [x])
/-- the third loop of Unmet. -/
def step3 (s : (Int → Int) × List Int) (x : Int) : (Int → Int) × List Int :=
  if x = 1 ∧ 0 < s.1 2 then (upd s.1 2 (s.1 2 - 1), s.2) else (s.1, s.2 ++ [x])
def pass2 (hs ws : List Int) : (Int → Int) × List Int := ws.foldl step2 (cnt hs, [])
def pass3 (g : Int → Int) (l : List Int) : (Int → Int) × List Int := l.foldl step3 (g, [])
def unmet (ws hs : List Int) : List Int := (pass3 (pass2 hs ws).1 (pass2 hs ws).2).2

theorem step2_yes {s : (Int → Int) × List Int} {x : Int} (h : 0 < s.1 x) : step2 s x = (upd s.1 x (s.1 x - 1), s.2) := if_pos h
theorem step2_no {s : (Int → Int) × List Int} {x : Int} (h : ¬ 0 < s.1 x) : step2 s x = (s.1, s.2 ++ [x]) := if_neg h
theorem step3_yes {s : (Int → Int) × List Int} {x : Int} (h : x = 1 ∧ 0 < s.1 2) : step3 s x = (upd s.1 2 (s.1 2 - 1), s.2) := if_pos h
theorem step3_no {s : (Int → Int) × List Int} {x : Int} (h : ¬ (x = 1 ∧ 0 < s.1 2)) : step3 s x = (s.1, s.2 ++ [x]) := if_neg h
theorem cnt_nil (x : Int) : cnt [] x = 0 := rfl
theorem cnt_snoc (l : List Int) (x : Int) : cnt (l ++ [x]) = upd (cnt l) x (cnt l x + 1) := by
  funext y
  unfold cnt upd
  by_cases h : y = x
  · subst h
    simp [List.count_append]
  · rw [if_neg h]
    have : [x].count y = 0 := by simp [Ne.symm h]
    simp [List.count_append, this]
theorem cnt_bd (l : List Int) (x : Int) : 0 ≤ cnt l x ∧ cnt l x ≤ l.length := by
  unfold cnt
  have := List.count_le_length (a := x) (l := l)
  omega

theorem take_snoc {α : Type} {l : List α} {k : Nat} {z : α} (h : l[k]? = some z) : l.take (k + 1) = l.take k ++ [z] := by
  rw [List.take_add_one, h]
  rfl

theorem pass2_snoc (hs ws : List Int) (z : Int) : pass2 hs (ws ++ [z]) = step2 (pass2 hs ws) z := by simp [pass2, List.foldl_append]
theorem pass3_snoc (g : Int → Int) (l : List Int) (z : Int) : pass3 g (l ++ [z]) = step3 (pass3 g l) z := by simp [pass3, List.foldl_append]

theorem pass2_bd (hs : List Int) : ∀ ws : List Int, (∀ x, 0 ≤ (pass2 hs ws).1 x ∧ (pass2 hs ws).1 x ≤ hs.length) ∧ (pass2 hs ws).2.length ≤ ws.length := by
  intro ws
  unfold pass2
  suffices H : ∀ (s : (Int → Int) × List Int) (n : Nat), (∀ x, 0 ≤ s.1 x ∧ s.1 x ≤ hs.length) → s.2.length ≤ n →
      (∀ x, 0 ≤ (ws.foldl step2 s).1 x ∧ (ws.foldl step2 s).1 x ≤ hs.length) ∧ (ws.foldl step2 s).2.length ≤ n + ws.length by
    have := H (cnt hs, []) 0 (fun x => cnt_bd hs x) (by simp)
    simpa using this
  induction ws with
  | nil => intro s n h1 h2; exact ⟨h1, by simpa using h2⟩
  | cons y t ih =>
    intro s n h1 h2
    simp only [List.foldl_cons, List.length_cons]
    by_cases hy : 0 < s.1 y
    · rw [step2_yes hy]
      have := ih (upd s.1 y (s.1 y - 1), s.2) n (fun x => by
        have := h1 x
        have := h1 y
        simp only [upd]
        split <;> omega) h2
      exact ⟨this.1, by omega⟩
    · rw [step2_no hy]
      have := ih (s.1, s.2 ++ [y]) (n + 1) h1 (by simp; omega)
      exact ⟨this.1, by omega⟩

theorem pass3_bd (g : Int → Int) (m : Nat) (hg : ∀ x, 0 ≤ g x ∧ g x ≤ m) (l : List Int) : (∀ x, 0 ≤ (pass3 g l).1 x ∧ (pass3 g l).1 x ≤ m) ∧ (pass3 g l).2.length ≤ l.length := by
  unfold pass3
  suffices H : ∀ (s : (Int → Int) × List Int) (n : Nat), (∀ x, 0 ≤ s.1 x ∧ s.1 x ≤ m) → s.2.length ≤ n →
      (∀ x, 0 ≤ (l.foldl step3 s).1 x ∧ (l.foldl step3 s).1 x ≤ m) ∧ (l.foldl step3 s).2.length ≤ n + l.length by
    have := H (g, []) 0 hg (by simp)
    simpa using this
  induction l with
  | nil => intro s n h1 h2; exact ⟨h1, by simpa using h2⟩
  | cons y t ih =>
    intro s n h1 h2
    simp only [List.foldl_cons, List.length_cons]
    by_cases hy : y = 1 ∧ 0 < s.1 2
    · rw [step3_yes hy]
      have := ih (upd s.1 2 (s.1 2 - 1), s.2) n (fun x => by
        have := h1 x
        have := h1 2
        simp only [upd]
        split <;> omega) h2
      exact ⟨this.1, by omega⟩
    · rw [step3_no hy]
      have := ih (s.1, s.2 ++ [y]) (n + 1) h1 (by simp; omega)
      exact ⟨this.1, by omega⟩

theorem unmet_len (ws hs : List Int) : (unmet ws hs).length ≤ ws.length := by
  have h2 := pass2_bd hs ws
  have h3 := pass3_bd (pass2 hs ws).1 hs.length h2.1 (pass2 hs ws).2
  unfold unmet
  omega

/-- what is left over is wanted. -/
theorem pass2_mem : ∀ (ws : List Int) (s : (Int → Int) × List Int) (P : Int → Prop), (∀ x ∈ ws, P x) → (∀ x ∈ s.2, P x) → ∀ x ∈ (ws.foldl step2 s).2, P x := by
  intro ws
  induction ws with
  | nil => intro s P _ h x hx; exact h x hx
  | cons y t ih =>
    intro s P hw h
    simp only [List.foldl_cons]
    refine ih _ P (fun x hx => hw x (by simp [hx])) ?_
    unfold step2
    split
    · exact h
    · intro x hx
      simp at hx
      rcases hx with hx | rfl
      · exact h x hx
      · exact hw x (by simp)
theorem pass3_mem : ∀ (ws : List Int) (s : (Int → Int) × List Int) (P : Int → Prop), (∀ x ∈ ws, P x) → (∀ x ∈ s.2, P x) → ∀ x ∈ (ws.foldl step3 s).2, P x := by
  intro ws
  induction ws with
  | nil => intro s P _ h x hx; exact h x hx
  | cons y t ih =>
    intro s P hw h
    simp only [List.foldl_cons]
    refine ih _ P (fun x hx => hw x (by simp [hx])) ?_
    unfold step3
    split
    · exact h
    · intro x hx
      simp at hx
      rcases hx with hx | rfl
      · exact h x hx
      · exact hw x (by simp)

end Go.Proofs.Ytpomakmmjbimfaa
