/-
  The changes between two ticks: plain lemmas.
-/
import Derived.Test.YtppbmnlneoinhaaDoorPick
namespace Go.Proofs.YtppbmnlneoinhaaDoor
open Go.RowKit Go.Maps

def inR (a b : Int) (c : ChgT) : Bool := decide (a ≤ c.tick) && decide (c.tick < b)
def chgsL (L : List ChgT) (a b : Int) : List ChgT := L.filter (inR a b)

theorem split_rev (x : Int) : ∀ s : List ChgT, Asc s.reverse → (∀ c ∈ s.reverse.take (cntB s.reverse x), c.tick < x) ∧ ∀ c ∈ s.reverse.drop (cntB s.reverse x), x ≤ c.tick
  | [], _ => ⟨fun c h => by simp at h, fun c h => by simp at h⟩
  | d :: s, h => by
    rw [List.reverse_cons] at h ⊢
    obtain ⟨h1, h2⟩ := asc_init h
    obtain ⟨i1, i2⟩ := split_rev x s h1
    have hle := cntB_le s.reverse x
    rw [cntB_snoc]
    by_cases q : x ≤ d.tick
    · rw [if_pos q, Nat.add_zero, List.take_append_of_le_length hle, List.drop_append_of_le_length hle]
      refine ⟨i1, fun c hc => ?_⟩
      rw [List.mem_append] at hc
      rcases hc with hc | hc
      · exact i2 c hc
      · have : c = d := by simpa using hc
        rw [this]
        exact q
    · have hall : ∀ c ∈ s.reverse, c.tick < x := fun c hc => by have := h2 c hc; omega
      rw [if_neg q, cntB_all hall]
      have hl : (s.reverse ++ [d]).length = s.reverse.length + 1 := by simp
      rw [← hl, List.take_length, List.drop_length]
      refine ⟨fun c hc => ?_, fun c hc => by simp at hc⟩
      rw [List.mem_append] at hc
      rcases hc with hc | hc
      · exact hall c hc
      · have : c = d := by simpa using hc
        rw [this]
        omega
theorem split_at {L : List ChgT} (h : Asc L) (x : Int) : (∀ c ∈ L.take (cntB L x), c.tick < x) ∧ ∀ c ∈ L.drop (cntB L x), x ≤ c.tick := by
  have := split_rev x L.reverse (by rw [List.reverse_reverse]; exact h)
  rwa [List.reverse_reverse] at this
theorem chgs_cut {L : List ChgT} (h : Asc L) (a b : Int) : (L.drop (cntB L a)).take (max (cntB L a) (cntB L b) - cntB L a) = chgsL L a b := by
  obtain ⟨a1, a2⟩ := split_at h a
  obtain ⟨b1, b2⟩ := split_at h b
  have e0 : chgsL L a b = (L.drop (cntB L a)).filter (inR a b) := by
    have e1 : L = L.take (cntB L a) ++ L.drop (cntB L a) := (List.take_append_drop _ _).symm
    unfold chgsL
    conv => lhs; rw [e1]
    rw [List.filter_append, List.filter_eq_nil_iff.2 ?_, List.nil_append]
    intro c hc
    have := a1 c hc
    simp [inR]
    omega
  rw [e0]
  by_cases q : cntB L a ≤ cntB L b
  · have e2 : L.drop (cntB L a) = (L.drop (cntB L a)).take (cntB L b - cntB L a) ++ L.drop (cntB L b) := by
      have e3 : (L.drop (cntB L a)).drop (cntB L b - cntB L a) = L.drop (cntB L b) := by
        rw [List.drop_drop]
        congr 1
        omega
      rw [← e3]
      exact (List.take_append_drop _ _).symm
    have e4 : max (cntB L a) (cntB L b) = cntB L b := by omega
    rw [e4]
    conv => rhs; rw [e2]
    have e6 : (L.drop (cntB L b)).filter (inR a b) = [] := by
      rw [List.filter_eq_nil_iff]
      intro c hc
      have := b2 c hc
      simp [inR]
      omega
    rw [List.filter_append, e6, List.append_nil]
    · symm
      rw [List.filter_eq_self]
      intro c hc
      have h1 := a2 c (List.mem_of_mem_take hc)
      have h2 : c ∈ L.take (cntB L b) := by
        have e5 : (L.drop (cntB L a)).take (cntB L b - cntB L a) = (L.take (cntB L b)).drop (cntB L a) := by
          rw [List.drop_take]
        rw [e5] at hc
        exact List.mem_of_mem_drop hc
      have h3 := b1 c h2
      simp [inR]
      omega
  · have e4 : max (cntB L a) (cntB L b) = cntB L a := by omega
    rw [e4, Nat.sub_self, List.take_zero]
    symm
    rw [List.filter_eq_nil_iff]
    intro c hc
    have h1 : c ∈ L.drop (cntB L b) := by
      have e5 : L.drop (cntB L a) = (L.drop (cntB L b)).drop (cntB L a - cntB L b) := by
        rw [List.drop_drop]
        congr 1
        omega
      rw [e5] at hc
      exact List.mem_of_mem_drop hc
    have := b2 c h1
    simp [inR]
    omega
theorem chgsL_take {L : List ChgT} {k : Nat} {c : ChgT} (h : L[k]? = some c) (a b : Int) : chgsL (L.take (k + 1)) a b = chgsL (L.take k) a b ++ (if inR a b c = true then [c] else []) := by
  have hk := (List.getElem?_eq_some_iff.1 h).1
  have e : L.take (k + 1) = L.take k ++ [c] := by rw [List.take_succ_eq_append_getElem hk, (List.getElem?_eq_some_iff.1 h).2]
  rw [e]
  unfold chgsL
  rw [List.filter_append]
  cases q : inR a b c <;> simp [q]
theorem chgsL_len (L : List ChgT) (a b : Int) : (chgsL L a b).length ≤ L.length := List.length_filter_le _ _
end Go.Proofs.YtppbmnlneoinhaaDoor
