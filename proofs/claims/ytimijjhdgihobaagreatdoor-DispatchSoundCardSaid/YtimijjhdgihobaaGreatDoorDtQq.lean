/-
  Plain: what a run of dispatch leaves of the units; the first free units of each district stay (samaritanlaw38.DispatchReserve).
-/
import Derived.Test.YtimijjhdgihobaaGreatDoorMrf
namespace Go.Proofs.YtimijjhdgihobaaGreatDoor
section
/-- the units as they were, but for those that were sent. -/
structure SameU (us L : List UnitT) : Prop where
  len : L.length = us.length
  same : ∀ (j : Nat) (u v : UnitT), us[j]? = some u → L[j]? = some v → v.id = u.id ∧ v.home = u.home ∧ v.kind = u.kind ∧ v.node = u.node ∧ (v = u ∨ v.state = 2)
theorem SameU.refl (us : List UnitT) : SameU us us := ⟨rfl, fun j u v h h' => by
  rw [h] at h'
  injection h' with h'
  subst h'
  exact ⟨rfl, rfl, rfl, rfl, .inl rfl⟩⟩
theorem send_at {L : List UnitT} {c : ChoT} {j : Nat} {v' : UnitT} (h : (sendU L c)[j]? = some v') : ∃ v, L[j]? = some v ∧ v' = if v.id = c.unit then { v with state := 2, inc := c.inc } else v := by
  unfold sendU at h
  rw [List.getElem?_map, Option.map_eq_some_iff] at h
  obtain ⟨v, h1, h2⟩ := h
  exact ⟨v, h1, h2.symm⟩
theorem SameU.send {us L : List UnitT} (h : SameU us L) (c : ChoT) : SameU us (sendU L c) := by
  refine ⟨by rw [sendU_len]; exact h.len, fun j u v' hu hv' => ?_⟩
  obtain ⟨v, hv, rfl⟩ := send_at hv'
  obtain ⟨a1, a2, a3, a4, a5⟩ := h.same j u v hu hv
  split
  · exact ⟨a1, a2, a3, a4, .inr rfl⟩
  · exact ⟨a1, a2, a3, a4, a5⟩
theorem SameU.sends {us : List UnitT} : ∀ {cs : List ChoT} {L : List UnitT}, SameU us L → SameU us (cs.foldl sendU L)
  | [], _, h => h
  | c :: _, _, h => (h.send c).sends
theorem SameU.at {us L : List UnitT} (h : SameU us L) {j : Nat} {v : UnitT} (hv : L[j]? = some v) (hs : v.state = 1) : us[j]? = some v := by
  have hj : j < us.length := by rw [← h.len]; exact (List.getElem?_eq_some_iff.1 hv).1
  have hu : us[j]? = some us[j] := List.getElem?_eq_getElem hj
  rcases (h.same j _ v hu hv).2.2.2.2 with e | e
  · rw [e]; exact hu
  · rw [hs] at e; cases e
theorem cnt_le {us L : List UnitT} (h : SameU us L) (z : Int) : ∀ j : Nat, cntH z (L.take j) ≤ cntH z (us.take j)
  | 0 => by simp [cntH]
  | j + 1 => by
    have ih := cnt_le h z j
    by_cases hj : j < us.length
    · have hu : us[j]? = some us[j] := List.getElem?_eq_getElem hj
      have hv : L[j]? = some (L[j]'(by rw [h.len]; exact hj)) := List.getElem?_eq_getElem _
      rw [take_snoc' hu, take_snoc' hv, cntH_snoc, cntH_snoc]
      obtain ⟨_, _, _, _, a5⟩ := h.same j _ _ hu hv
      rcases a5 with e | e
      · rw [e]; omega
      · rw [if_neg (fun q => by rw [e] at q; exact absurd q.1 (by decide))]
        omega
    · rw [List.take_of_length_le (by rw [h.len]; omega), List.take_of_length_le (by omega)]
      have h1 : L.take j = L := List.take_of_length_le (by rw [h.len]; omega)
      have h2 : us.take j = us := List.take_of_length_le (by omega)
      rw [h1, h2] at ih
      exact ih
theorem spare_at {r : Int} {us : List UnitT} : ∀ {k : Nat} {u : UnitT}, u ∈ spareR r us k → ∃ j, us[j]? = some u ∧ keepU r us j u
  | 0, u, h => by simp [spareR] at h
  | k + 1, u, h => by
    rw [spareR] at h
    split at h
    · rename_i u' hu'
      split at h
      · rename_i hk
        rcases List.mem_append.1 h with h | h
        · exact spare_at h
        · rw [List.mem_singleton] at h
          subst h
          exact ⟨k, hu', hk⟩
      · exact spare_at h
    · exact spare_at h
/-- the units have IDs of their own. -/
def DistU (us : List UnitT) : Prop := ∀ (i j : Nat) (u v : UnitT), i < j → us[i]? = some u → us[j]? = some v → u.id ≠ v.id
theorem DistU.eq {us : List UnitT} (h : DistU us) {i j : Nat} {u v : UnitT} (hu : us[i]? = some u) (hv : us[j]? = some v) (e : u.id = v.id) : i = j := by
  rcases Nat.lt_trichotomy i j with q | q | q
  · exact absurd e (h i j u v q hu hv)
  · exact q
  · exact absurd e.symm (h j i v u q hv hu)
/-- the unit at j is one of the first free units of its district. -/
def StayU (rsv : Int) (us : List UnitT) (j : Nat) (u : UnitT) : Prop := us[j]? = some u ∧ u.state = 1 ∧ (cntH u.home (us.take j) : Int) < rsv
def Harmless (rsv : Int) (us : List UnitT) (c : ChoT) : Prop := ∀ (j : Nat) (u : UnitT), StayU rsv us j u → u.id ≠ c.unit
section
variable {n : Nat} {E : List EdgeT} {ts : List Int} {xs : List IncT} {ps : List Plan} {rsv : Int}
theorem StepR.unit {g : Int} {L L' : List UnitT} {cs : List ChoT} (h : StepR n E ts xs ps rsv g L cs L') {c : ChoT} (hc : c ∈ cs) : ∃ (i : Nat) (v : UnitT), L[i]? = some v ∧ c.unit = v.id ∧ keepU (effR g rsv) L i v := by
  obtain ⟨M, m, _, _, _, rfl, _⟩ := h
  obtain ⟨i, j, s, v, _, _, _, hv, rfl⟩ := choTo_mem hc
  obtain ⟨k, hk, hkeep⟩ := spare_at (candU_mem (List.mem_of_getElem? hv))
  exact ⟨k, v, hk, rfl, hkeep⟩
theorem StepR.left {g : Int} {L L' : List UnitT} {cs : List ChoT} (h : StepR n E ts xs ps rsv g L cs L') : L' = cs.foldl sendU L := by
  obtain ⟨M, m, _, _, _, _, e⟩ := h
  exact e
theorem step_harm {g : Int} {us L L' : List UnitT} {cs : List ChoT} (hg : effR g rsv = rsv) (hd : DistU us) (hs : SameU us L) (h : StepR n E ts xs ps rsv g L cs L') : ∀ c ∈ cs, Harmless rsv us c := by
  intro c hc j u ⟨hu, hst, hlt⟩ he
  obtain ⟨i, v, hv, hcv, hk⟩ := h.unit hc
  rw [hg] at hk
  have hv0 := hs.at hv hk.1
  have e := hd.eq hu hv0 (he.trans hcv)
  subst e
  rw [hu] at hv0
  injection hv0 with hv0
  subst hv0
  have h1 := cnt_le hs u.home j
  have h2 := hk.2
  omega
theorem run_harm {us : List UnitT} (hd : DistU us) : ∀ {l : List Int} {L L' : List UnitT} {cs : List ChoT}, (∀ g ∈ l, effR g rsv = rsv ∨ ∀ x ∈ xs, x.urg ≠ g) → SameU us L → RunR n E ts xs ps rsv l L cs L' → ∀ c ∈ cs, Harmless rsv us c
  | [], _, _, _, _, _, h => by
    rw [h.1]
    intro c hc
    simp at hc
  | g :: r, L, _, _, hl, hs, ⟨c1, m1, c2, h1, h2, h3⟩ => by
    rw [h3]
    have hs1 : SameU us m1 := by rw [h1.left]; exact hs.sends
    have ih := run_harm hd (fun g' hg' => hl g' (List.mem_cons_of_mem _ hg')) hs1 h2
    intro c hc
    rcases List.mem_append.1 hc with hc | hc
    · rcases hl g List.mem_cons_self with e | e
      · exact step_harm e hd hs h1 c hc
      · have := (h1.empty (slotsU_nil e)).1
        rw [this] at hc
        simp at hc
    · exact ih c hc
end
section
variable {n : Nat} {E : List EdgeT} {ts : List Int} {xs : List IncT} {ps : List Plan} {rsv : Int}
theorem run_units {us : List UnitT} : ∀ {l : List Int} {L L' : List UnitT} {cs : List ChoT}, SameU us L → RunR n E ts xs ps rsv l L cs L' → SameU us L' ∧ ∀ c ∈ cs, ∃ (j : Nat) (u : UnitT), us[j]? = some u ∧ c.unit = u.id
  | [], _, _, _, hs, h => by
    rw [h.1, h.2]
    exact ⟨hs, fun c hc => by simp at hc⟩
  | g :: r, L, _, _, hs, ⟨c1, m1, c2, h1, h2, h3⟩ => by
    have hs1 : SameU us m1 := by rw [h1.left]; exact hs.sends
    obtain ⟨i1, i2⟩ := run_units hs1 h2
    refine ⟨i1, fun c hc => ?_⟩
    rw [h3] at hc
    rcases List.mem_append.1 hc with hc | hc
    · obtain ⟨i, v, hv, e, hk⟩ := h1.unit hc
      exact ⟨i, v, hs.at hv hk.1, e⟩
    · exact i2 c hc
end
/-- what the law has seen: how many free units of a district, and who stays. -/
theorem stay_next {rsv : Int} {us : List UnitT} {k : Nat} {u : UnitT} (h : us[k]? = some u) (x : Int) : (∃ j v, j < k + 1 ∧ StayU rsv us j v ∧ v.id = x) ↔ (∃ j v, j < k ∧ StayU rsv us j v ∧ v.id = x) ∨ (StayU rsv us k u ∧ u.id = x) := by
  constructor
  · rintro ⟨j, v, hj, hs, e⟩
    by_cases q : j = k
    · subst q
      have := hs.1
      rw [h] at this
      injection this with this
      subst this
      exact .inr ⟨hs, e⟩
    · exact .inl ⟨j, v, by omega, hs, e⟩
  · rintro (⟨j, v, hj, hs, e⟩ | ⟨hs, e⟩)
    · exact ⟨j, v, by omega, hs, e⟩
    · exact ⟨k, u, by omega, hs, e⟩
end
end Go.Proofs.YtimijjhdgihobaaGreatDoor
