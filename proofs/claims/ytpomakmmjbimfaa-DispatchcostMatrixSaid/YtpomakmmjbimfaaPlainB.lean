/-
  The reference's marking of used units (samaritanref31.Left) keeps the counts that responseplan.Unmet keeps.
  No condition: plain lemmas on lists.
-/
import Derived.Test.YtpomakmmjbimfaaPlainA
namespace Go.Proofs.Ytpomakmmjbimfaa

/-- how many units of the kind x are not marked. -/
def free : List Int → List Bool → Int → Int
  | h :: hs, u :: us, x => (if h = x ∧ u = false then 1 else 0) + free hs us x
  | _, _, _ => 0

theorem free_none (hs : List Int) (x : Int) : free hs (List.replicate hs.length false) x = cnt hs x := by
  induction hs with
  | nil => rfl
  | cons h t ih =>
    simp only [List.length_cons, List.replicate_succ, free, ih, cnt, List.count_cons]
    by_cases e : h = x
    · subst e
      simp
      omega
    · simp [e]

theorem free_ge (hs : List Int) : ∀ (us : List Bool) (x : Int), 0 ≤ free hs us x := by
  induction hs with
  | nil => intro us x; simp [free]
  | cons h t ih =>
    intro us x
    cases us with
    | nil => simp [free]
    | cons u us =>
      have := ih us x
      simp only [free]
      split <;> omega

theorem free_set (hs : List Int) : ∀ (us : List Bool) (i : Nat) (x : Int), hs[i]? = some x → us[i]? = some false → ∀ y, free hs (us.set i true) y = upd (free hs us) x (free hs us x - 1) y := by
  induction hs with
  | nil => intro us i x h; simp at h
  | cons h t ih =>
    intro us i x hi hu y
    cases us with
    | nil => simp at hu
    | cons u us =>
      cases i with
      | zero =>
        simp at hi hu
        subst hi hu
        simp only [List.set_cons_zero, free, upd]
        by_cases e : y = h
        · subst e
          simp
          omega
        · have e' : ¬ h = y := fun q => e q.symm
          simp [e, e']
      | succ i =>
        simp at hi hu
        have := ih us i x hi hu y
        simp only [List.set_cons_succ, free, this, upd]
        by_cases e : y = x
        · subst e
          simp
          omega
        · simp [e]

theorem free_pos (hs : List Int) : ∀ (us : List Bool) (i : Nat) (x : Int), hs[i]? = some x → us[i]? = some false → 0 < free hs us x := by
  induction hs with
  | nil => intro us i x h; simp at h
  | cons h t ih =>
    intro us i x hi hu
    cases us with
    | nil => simp at hu
    | cons u us =>
      cases i with
      | zero =>
        simp at hi hu
        subst hi hu
        have := free_ge t us h
        simp [free]
        omega
      | succ i =>
        simp at hi hu
        have := ih us i x hi hu
        simp only [free]
        split <;> omega

theorem free_zero (hs : List Int) : ∀ (us : List Bool) (x : Int), us.length = hs.length → (∀ i : Nat, hs[i]? = some x → us[i]? = some true) → free hs us x = 0 := by
  induction hs with
  | nil => intro us x _ _; cases us <;> rfl
  | cons h t ih =>
    intro us x hl hi
    cases us with
    | nil => rfl
    | cons u us =>
      have h1 := ih us x (by simpa using hl) (fun i h => by have := hi (i + 1) (by simpa using h); simpa using this)
      simp only [free, h1]
      by_cases e : h = x
      · have := hi 0 (by simp [e])
        simp at this
        simp [this]
      · simp [e]

/-- the state of the inner loop behind j rounds: U as it was at the start, V as it is now. -/
def Scan (x : Int) (hs : List Int) (U : List Bool) (j : Nat) (d : Bool) (V : List Bool) : Prop :=
  (d = false ∧ V = U ∧ ∀ i, i < j → hs[i]? = some x → U[i]? = some true) ∨ (d = true ∧ ∃ i, hs[i]? = some x ∧ U[i]? = some false ∧ V = U.set i true)

theorem Scan.start (x : Int) (hs : List Int) (U : List Bool) : Scan x hs U 0 false U := .inl ⟨rfl, rfl, fun i h => absurd h (by omega)⟩
theorem Scan.done {x : Int} {hs : List Int} {U : List Bool} {j : Nat} {V : List Bool} (h : Scan x hs U j true V) (j' : Nat) : Scan x hs U j' true V := by
  rcases h with ⟨h, _⟩ | h
  · cases h
  · exact .inr h
theorem Scan.same {x : Int} {hs : List Int} {U : List Bool} {j : Nat} {V : List Bool} (h : Scan x hs U j false V) : V = U := by
  rcases h with ⟨_, h, _⟩ | ⟨h, _⟩
  · exact h
  · cases h
theorem Scan.len {x : Int} {hs : List Int} {U : List Bool} {j : Nat} {d : Bool} {V : List Bool} (h : Scan x hs U j d V) : V.length = U.length := by
  rcases h with ⟨_, h, _⟩ | ⟨_, i, _, _, h⟩ <;> simp [h]
theorem Scan.used {x : Int} {hs : List Int} {U : List Bool} {j : Nat} {V : List Bool} (h : Scan x hs U j false V) (hu : V[j]? = some true) : Scan x hs U (j + 1) false V := by
  rcases h with ⟨h1, rfl, h3⟩ | ⟨h, _⟩
  · refine .inl ⟨rfl, rfl, fun i hi hx => ?_⟩
    by_cases e : i = j
    · subst e
      exact hu
    · exact h3 i (by omega) hx
  · cases h
theorem Scan.miss {x : Int} {hs : List Int} {U : List Bool} {j : Nat} {V : List Bool} {y : Int} (h : Scan x hs U j false V) (hy : hs[j]? = some y) (hne : y ≠ x) : Scan x hs U (j + 1) false V := by
  rcases h with ⟨h1, rfl, h3⟩ | ⟨h, _⟩
  · refine .inl ⟨rfl, rfl, fun i hi hx => ?_⟩
    by_cases e : i = j
    · subst e
      rw [hy] at hx
      injection hx with hx
      exact absurd hx hne
    · exact h3 i (by omega) hx
  · cases h
theorem Scan.hit {x : Int} {hs : List Int} {U : List Bool} {j : Nat} {V : List Bool} (h : Scan x hs U j false V) (hy : hs[j]? = some x) (hu : V[j]? = some false) : Scan x hs U (j + 1) true (V.set j true) := by
  have e := h.same
  subst e
  exact .inr ⟨rfl, j, hy, hu, rfl⟩

theorem Scan.yes {x : Int} {hs : List Int} {U : List Bool} {V : List Bool} (h : Scan x hs U hs.length true V) : 0 < free hs U x ∧ ∀ y, free hs V y = upd (free hs U) x (free hs U x - 1) y := by
  rcases h with ⟨h, _⟩ | ⟨_, i, hx, hu, rfl⟩
  · cases h
  · exact ⟨free_pos hs U i x hx hu, free_set hs U i x hx hu⟩
theorem Scan.no {x : Int} {hs : List Int} {U : List Bool} {V : List Bool} (h : Scan x hs U hs.length false V) (hl : U.length = hs.length) : ¬ 0 < free hs U x := by
  rcases h with ⟨_, rfl, h3⟩ | ⟨h, _⟩
  · rw [free_zero hs V x hl (fun i hi => h3 i (List.getElem?_eq_some_iff.1 hi).1 hi)]
    omega
  · cases h

/-- the inner loop of the second pass: it looks for a unit of kind 2, if the kind z that is wanted is 1. -/
def Scan3 (z : Int) (hs : List Int) (U : List Bool) (j : Nat) (d : Bool) (V : List Bool) : Prop :=
  (z = 1 → Scan 2 hs U j d V) ∧ (z ≠ 1 → d = false ∧ V = U)
theorem Scan3.start (z : Int) (hs : List Int) (U : List Bool) : Scan3 z hs U 0 false U := ⟨fun _ => Scan.start _ _ _, fun _ => ⟨rfl, rfl⟩⟩
theorem Scan3.len {z : Int} {hs : List Int} {U : List Bool} {j : Nat} {d : Bool} {V : List Bool} (h : Scan3 z hs U j d V) : V.length = U.length := by
  by_cases e : z = 1
  · exact (h.1 e).len
  · rw [(h.2 e).2]
theorem Scan3.done {z : Int} {hs : List Int} {U : List Bool} {j : Nat} {V : List Bool} (h : Scan3 z hs U j true V) (j' : Nat) : Scan3 z hs U j' true V := by
  by_cases e : z = 1
  · exact ⟨fun e => (h.1 e).done j', fun e' => absurd e e'⟩
  · exact absurd (h.2 e).1 (by simp)
theorem Scan3.used {z : Int} {hs : List Int} {U : List Bool} {j : Nat} {V : List Bool} (h : Scan3 z hs U j false V) (hu : V[j]? = some true) : Scan3 z hs U (j + 1) false V :=
  ⟨fun e => (h.1 e).used hu, h.2⟩
theorem Scan3.miss {z : Int} {hs : List Int} {U : List Bool} {j : Nat} {V : List Bool} {y : Int} (h : Scan3 z hs U j false V) (hy : hs[j]? = some y) (hne : y ≠ 2) : Scan3 z hs U (j + 1) false V :=
  ⟨fun e => (h.1 e).miss hy hne, h.2⟩
theorem Scan3.other {z : Int} {hs : List Int} {U : List Bool} {j : Nat} {V : List Bool} (h : Scan3 z hs U j false V) (hne : z ≠ 1) : Scan3 z hs U (j + 1) false V :=
  ⟨fun e => absurd e hne, h.2⟩
theorem Scan3.hit {hs : List Int} {U : List Bool} {j : Nat} {V : List Bool} (h : Scan3 1 hs U j false V) (hy : hs[j]? = some 2) (hu : V[j]? = some false) : Scan3 1 hs U (j + 1) true (V.set j true) :=
  ⟨fun e => (h.1 e).hit hy hu, fun e => absurd rfl e⟩
theorem Scan3.same {z : Int} {hs : List Int} {U : List Bool} {j : Nat} {V : List Bool} (h : Scan3 z hs U j false V) : V = U := by
  by_cases e : z = 1
  · exact (h.1 e).same
  · exact (h.2 e).2
theorem Scan3.yes {z : Int} {hs : List Int} {U : List Bool} {V : List Bool} (h : Scan3 z hs U hs.length true V) : (z = 1 ∧ 0 < free hs U 2) ∧ ∀ y, free hs V y = upd (free hs U) 2 (free hs U 2 - 1) y := by
  by_cases e : z = 1
  · exact ⟨⟨e, (h.1 e).yes.1⟩, (h.1 e).yes.2⟩
  · exact absurd (h.2 e).1 (by simp)
theorem Scan3.no {z : Int} {hs : List Int} {U : List Bool} {V : List Bool} (h : Scan3 z hs U hs.length false V) (hl : U.length = hs.length) : ¬ (z = 1 ∧ 0 < free hs U 2) :=
  fun q => (h.1 q.1).no hl q.2

end Go.Proofs.Ytpomakmmjbimfaa
