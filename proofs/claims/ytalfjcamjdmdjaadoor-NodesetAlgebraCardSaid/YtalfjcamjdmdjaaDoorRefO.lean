/-
  samaritanref02.Of, plain: insertion into an ascending list.
-/
import Derived.Test.YtalfjcamjdmdjaaDoorRefG
namespace Go.Proofs.YtalfjcamjdmdjaaDoor

def iStep (n : Int) (st : List Int × Bool) (x : Int) : List Int × Bool := if st.2 = false ∧ n < x then (st.1 ++ [n] ++ [x], true) else (st.1 ++ [x], st.2)
def insR (n : Int) (L : List Int) : List Int := if (L.foldl (iStep n) ([], false)).2 then (L.foldl (iStep n) ([], false)).1 else (L.foldl (iStep n) ([], false)).1 ++ [n]
theorem iStep_put (n : Int) : ∀ (L acc : List Int), L.foldl (iStep n) (acc, true) = (acc ++ L, true)
  | [], acc => by simp
  | x :: L, acc => by
    rw [List.foldl_cons]
    have : iStep n (acc, true) x = (acc ++ [x], true) := by unfold iStep; rw [if_neg (by simp)]
    rw [this, iStep_put n L]
    simp
/-- ascending integers. -/
def UpI (L : List Int) : Prop := L.Pairwise (· < ·)
theorem ins_fold (n : Int) : ∀ (L acc : List Int), UpI L → n ∉ L → ∃ A B, L = A ++ B ∧ (∀ x ∈ A, x < n) ∧ (∀ x ∈ B, n < x) ∧ ((B = [] ∧ L.foldl (iStep n) (acc, false) = (acc ++ A, false)) ∨ (B ≠ [] ∧ L.foldl (iStep n) (acc, false) = (acc ++ A ++ n :: B, true)))
  | [], acc, _, _ => ⟨[], [], rfl, by simp, by simp, .inl ⟨rfl, by simp⟩⟩
  | x :: L, acc, hu, hn => by
    obtain ⟨h1, h2⟩ := List.pairwise_cons.1 hu
    have hx : n ≠ x := fun e => hn (by simp [e])
    by_cases q : n < x
    · refine ⟨[], x :: L, rfl, by simp, fun y hy => ?_, .inr ⟨by simp, ?_⟩⟩
      · rcases List.mem_cons.1 hy with rfl | hy
        · exact q
        · have := h1 y hy
          omega
      · rw [List.foldl_cons]
        have : iStep n (acc, false) x = (acc ++ [n] ++ [x], true) := by unfold iStep; rw [if_pos ⟨rfl, q⟩]
        rw [this, iStep_put]
        simp
    · have hxn : x < n := by omega
      obtain ⟨A, B, e, hA, hB, h⟩ := ins_fold n L (acc ++ [x]) h2 (fun hm => hn (by simp [hm]))
      refine ⟨x :: A, B, by rw [e]; rfl, fun y hy => ?_, hB, ?_⟩
      · rcases List.mem_cons.1 hy with rfl | hy
        · exact hxn
        · exact hA y hy
      · rw [List.foldl_cons]
        have : iStep n (acc, false) x = (acc ++ [x], false) := by unfold iStep; rw [if_neg (fun h => q h.2)]
        rw [this]
        rcases h with ⟨hb, h⟩ | ⟨hb, h⟩
        · exact .inl ⟨hb, by rw [h]; simp⟩
        · exact .inr ⟨hb, by rw [h]; simp⟩
theorem insR_ok {n : Int} {L : List Int} (hu : UpI L) (hn : n ∉ L) : UpI (insR n L) ∧ ∀ m, m ∈ insR n L ↔ m = n ∨ m ∈ L := by
  obtain ⟨A, B, e, hA, hB, h⟩ := ins_fold n L [] hu hn
  have hr : insR n L = A ++ n :: B := by
    unfold insR
    rcases h with ⟨rfl, h⟩ | ⟨_, h⟩
    · rw [h]; simp
    · rw [h]; simp
  rw [hr, e]
  rw [e] at hu
  obtain ⟨u1, u2, u3⟩ := List.pairwise_append.1 hu
  refine ⟨List.pairwise_append.2 ⟨u1, List.pairwise_cons.2 ⟨hB, u2⟩, fun a ha b hb => ?_⟩, fun m => ?_⟩
  · rcases List.mem_cons.1 hb with rfl | hb
    · exact hA a ha
    · exact u3 a ha b hb
  · simp only [List.mem_append, List.mem_cons]
    constructor
    · rintro (h | h | h)
      · exact .inr (.inl h)
      · exact .inl h
      · exact .inr (.inr h)
    · rintro (h | h | h)
      · exact .inr (.inl h)
      · exact .inl h
      · exact .inr (.inr h)
def oStep (L : List Int) (z : Int) : List Int := if z < 0 ∨ 4096 ≤ z ∨ L.contains z = true then L else insR z L
def refOf (zs : List Int) : List Int := zs.foldl oStep []
theorem refOf_fold : ∀ (zs L : List Int), UpI L → (∀ x ∈ L, 0 ≤ x ∧ x < 4096) → UpI (zs.foldl oStep L) ∧ ∀ m, m ∈ zs.foldl oStep L ↔ m ∈ L ∨ (0 ≤ m ∧ m < 4096 ∧ m ∈ zs)
  | [], L, h, _ => ⟨h, fun m => by simp⟩
  | z :: zs, L, h, hb => by
    rw [List.foldl_cons]
    by_cases q : z < 0 ∨ 4096 ≤ z ∨ L.contains z = true
    · have e : oStep L z = L := if_pos q
      rw [e]
      obtain ⟨h1, h2⟩ := refOf_fold zs L h hb
      refine ⟨h1, fun m => (h2 m).trans ?_⟩
      constructor
      · rintro (h | ⟨a, b, c⟩)
        · exact .inl h
        · exact .inr ⟨a, b, List.mem_cons_of_mem _ c⟩
      · rintro (h | ⟨a, b, c⟩)
        · exact .inl h
        · rcases List.mem_cons.1 c with rfl | c
          · rcases q with q | q | q
            · omega
            · omega
            · exact .inl (List.contains_iff_mem.1 q)
          · exact .inr ⟨a, b, c⟩
    · have e : oStep L z = insR z L := if_neg q
      have hn : z ∉ L := fun hm => q (.inr (.inr (List.contains_iff_mem.2 hm)))
      obtain ⟨g1, g2⟩ := insR_ok h hn
      rw [e]
      obtain ⟨h1, h2⟩ := refOf_fold zs (insR z L) g1 (fun x hx => by
        rcases (g2 x).1 hx with rfl | hx
        · omega
        · exact hb x hx)
      refine ⟨h1, fun m => (h2 m).trans ?_⟩
      rw [g2 m]
      constructor
      · rintro ((rfl | h) | ⟨a, b, c⟩)
        · exact .inr ⟨by omega, by omega, by simp⟩
        · exact .inl h
        · exact .inr ⟨a, b, List.mem_cons_of_mem _ c⟩
      · rintro (h | ⟨a, b, c⟩)
        · exact .inl (.inr h)
        · rcases List.mem_cons.1 c with rfl | c
          · exact .inl (.inl rfl)
          · exact .inr ⟨a, b, c⟩
theorem refOf_ok (zs : List Int) : UpI (refOf zs) ∧ ∀ m, m ∈ refOf zs ↔ 0 ≤ m ∧ m < 4096 ∧ m ∈ zs := by
  obtain ⟨h1, h2⟩ := refOf_fold zs [] List.Pairwise.nil (fun x hx => by cases hx)
  exact ⟨h1, fun m => (h2 m).trans (by simp)⟩
end Go.Proofs.YtalfjcamjdmdjaaDoor
