/-
  Plain: there are always least lengths (Fin35), so every cell of a cost matrix has a value.
-/
import Derived.Test.YtimijjhdgihobaaGreatDoorMqq
import Derived.Test.YtimijjhdgihobaaGreatDoorMqu
namespace Go.Proofs.YtimijjhdgihobaaGreatDoor
section
theorem fin_low {n : Nat} {S : Nat → Prop} {E : List EdgeT} {W : List Int} (hn : n ≤ 256) (hW : okW W) (hE : ∀ e ∈ E, 0 ≤ e.frm ∧ e.frm < n ∧ 0 ≤ e.dst ∧ e.dst < n) : ∀ (k : Nat) (D : List Int), phi D < k → Low n S E W D → (∀ s, S s → D[s]? = some 0) → ∃ D', Fin35 n S E W D' := by
  intro k
  induction k with
  | zero => intro D h; omega
  | succ k ih =>
    intro D hk hl hs
    by_cases hc : ∀ (i u v : Nat) (x d : Int), usable E W i u v x → D[u]? = some d → d ≠ 4611686018427387904 → ∃ d', D[v]? = some d' ∧ d' ≤ d + x
    · refine ⟨D, hl.len, hl.way, hs, hc, fun v d hd hne => ?_⟩
      obtain ⟨h1, h2, h3⟩ := hl.le_inf hn hd
      have := h3 hne
      omega
    · rw [Classical.not_forall] at hc
      obtain ⟨i, hc⟩ := hc
      rw [Classical.not_forall] at hc
      obtain ⟨u, hc⟩ := hc
      rw [Classical.not_forall] at hc
      obtain ⟨v, hc⟩ := hc
      rw [Classical.not_forall] at hc
      obtain ⟨x, hc⟩ := hc
      rw [Classical.not_forall] at hc
      obtain ⟨d, hc⟩ := hc
      rw [Classical.not_imp] at hc
      obtain ⟨hu, hc⟩ := hc
      rw [Classical.not_imp] at hc
      obtain ⟨hd, hc⟩ := hc
      rw [Classical.not_imp] at hc
      obtain ⟨hne, hc⟩ := hc
      obtain ⟨e, h1, h2, h3, h4, h5⟩ := hu
      have hx := hW i x h4 h5
      have hr := hE e (List.mem_of_getElem? h1)
      have hv : v < D.length := by rw [hl.len]; omega
      have hv0 : D[v]? = some D[v] := List.getElem?_eq_getElem hv
      have hlt : d + x < D[v] := by
        rcases Int.lt_or_le (d + x) D[v] with h | h
        · exact h
        · exact absurd ⟨_, hv0, h⟩ hc
      have hsm := hl.small u d hd hne
      have hb := (hl.le_inf hn hd).2.2 hne
      have hw : Way S E W v (d + x) := Way.step (hl.way u d hd hne) ⟨e, h1, h2, h3, h4, h5⟩
      have hp := phi_set hv0 hlt (by omega) (by omega)
      refine ih (D.set v (d + x)) (by omega) (hl.set hn hv0 hlt (by omega) (by omega) hw) (fun s hS => ?_)
      have h0 := hs s hS
      by_cases e2 : s = v
      · subst e2
        rw [hv0] at h0
        injection h0 with h0
        omega
      · rw [List.getElem?_set_ne (fun e => e2 e.symm)]
        exact h0
theorem fin_some {n : Nat} {E : List EdgeT} {W : List Int} (hn : n ≤ 256) (hW : okW W) (hE : ∀ e ∈ E, 0 ≤ e.frm ∧ e.frm < n ∧ 0 ≤ e.dst ∧ e.dst < n) (ss : List Int) : ∃ D, Fin35 n (fun s => (s : Int) ∈ ss ∧ s < n) E W D :=
  fin_low hn hW hE _ _ (Nat.lt_succ_self _) (seeds_low n ss E W) (seeded_start n ss).2.1
theorem tt_some {n : Nat} {E : List EdgeT} {ts : List Int} (hn : n ≤ 256) (hE : ∀ e ∈ E, 0 ≤ e.frm ∧ e.frm < n ∧ 0 ≤ e.dst ∧ e.dst < n) (z : Int) (zs : List Int) : ∃ t, TT n E ts z zs t := by
  obtain ⟨D, hD⟩ := fin_some (W := timesL ts E.length) hn (okW_times _ _) hE [z]
  exact ⟨_, D, hD, rfl⟩
theorem cost_some {n : Nat} {E : List EdgeT} {ts : List Int} (hn : n ≤ 256) (hE : ∀ e ∈ E, 0 ≤ e.frm ∧ e.frm < n ∧ 0 ≤ e.dst ∧ e.dst < n) (s : SlotP) (u : UnitT) : ∃ c, CostS n E ts s u c := by
  cases hs : satB u.kind s.kind
  · exact ⟨4611686018427387904, (fun h => by rw [hs] at h; cases h), fun _ => rfl⟩
  · obtain ⟨t, ht⟩ := tt_some (ts := ts) hn hE u.node s.nodes
    exact ⟨t, fun _ => ht, (fun h => by rw [hs] at h; cases h)⟩
end
end Go.Proofs.YtimijjhdgihobaaGreatDoor
