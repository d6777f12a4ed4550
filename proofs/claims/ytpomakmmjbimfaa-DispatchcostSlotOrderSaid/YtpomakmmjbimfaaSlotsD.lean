/-
  Plain: the slots are ordered, and each belongs to an open incident.
-/
import Derived.Test.YtpomakmmjbimfaaSlotsC
namespace Go.Proofs.Ytpomakmmjbimfaa

def ordS (s t : SlotP) : Prop := s.urg < t.urg ∨ (s.urg = t.urg ∧ s.since ≤ t.since)
theorem slotsX_of {us : List UnitT} {ps : List Plan} {x : IncT} {s : SlotP} (h : s ∈ slotsX us ps x) : s.inc = x.id ∧ s.urg = x.urg ∧ s.since = x.since := by
  unfold slotsX at h
  rw [List.mem_map] at h
  obtain ⟨kd, _, rfl⟩ := h
  exact ⟨rfl, rfl, rfl⟩
theorem slotsX_ord (us : List UnitT) (ps : List Plan) (x : IncT) : (slotsX us ps x).Pairwise ordS := by
  have : ∀ l : List Int, (l.map (fun kd => (⟨x.id, x.urg, x.since, kd, x.nodes⟩ : SlotP))).Pairwise ordS := by
    intro l
    induction l with
    | nil => exact List.Pairwise.nil
    | cons a l ih =>
      rw [List.map_cons, List.pairwise_cons]
      refine ⟨fun t ht => ?_, ih⟩
      rw [List.mem_map] at ht
      obtain ⟨kd, _, rfl⟩ := ht
      exact .inr ⟨rfl, Int.le_refl _⟩
  exact this _
theorem slots_ord (us : List UnitT) (ps : List Plan) : ∀ ys : List IncT, SortedI ys → (ys.flatMap (slotsX us ps)).Pairwise ordS
  | [], _ => List.Pairwise.nil
  | y :: ys, h => by
    rw [SortedI, List.pairwise_cons] at h
    rw [List.flatMap_cons, List.pairwise_append]
    refine ⟨slotsX_ord us ps y, slots_ord us ps ys h.2, fun s hs t ht => ?_⟩
    rw [List.mem_flatMap] at ht
    obtain ⟨z, hz, ht⟩ := ht
    have h1 := h.1 z hz
    obtain ⟨_, a2, a3⟩ := slotsX_of hs
    obtain ⟨_, b2, b3⟩ := slotsX_of ht
    unfold ltI at h1
    unfold ordS
    omega
theorem slotsL_ord (xs : List IncT) (us : List UnitT) (ps : List Plan) {i : Nat} {s t : SlotP} (hs : (slotsL xs us ps)[i]? = some s) (ht : (slotsL xs us ps)[i + 1]? = some t) : ordS s t := by
  have h := slots_ord us ps _ (sortK_sorted (xs.filter openI))
  rw [List.pairwise_iff_getElem] at h
  obtain ⟨h1, h2⟩ := List.getElem?_eq_some_iff.1 hs
  obtain ⟨h3, h4⟩ := List.getElem?_eq_some_iff.1 ht
  have := h i (i + 1) h1 h3 (by omega)
  unfold slotsL at h2 h4
  rw [h2, h4] at this
  exact this
def mtI (inc urg : Int) (y : IncT) : Bool := y.id == inc && !y.closed && y.merged == 0 && y.urg == urg
theorem slotsL_open (xs : List IncT) (us : List UnitT) (ps : List Plan) {s : SlotP} (hs : s ∈ slotsL xs us ps) : xs.any (mtI s.inc s.urg) = true := by
  unfold slotsL at hs
  rw [List.mem_flatMap] at hs
  obtain ⟨x, hx, hm⟩ := hs
  rw [mem_sortK, List.mem_filter] at hx
  obtain ⟨a1, a2, _⟩ := slotsX_of hm
  rw [List.any_eq_true]
  refine ⟨x, hx.1, ?_⟩
  have := hx.2
  unfold openI at this
  simp only [Bool.and_eq_true, Bool.not_eq_true', beq_iff_eq] at this
  simp [mtI, a1, a2, this.1, this.2]
end Go.Proofs.Ytpomakmmjbimfaa
