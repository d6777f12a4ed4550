/-
  Plain: one unit more never serves fewer slots of urgency 1 (samaritanlaw38.DispatchMoreUnits).
-/
import Derived.Test.YtimijjhdgihobaaDoorMrf
namespace Go.Proofs.YtimijjhdgihobaaDoor
section
theorem spareR_app {r : Int} {us : List UnitT} {u : UnitT} : ∀ {k : Nat}, k ≤ us.length → spareR r (us ++ [u]) k = spareR r us k
  | 0, _ => rfl
  | k + 1, h => by
    have ih := spareR_app (r := r) (us := us) (u := u) (k := k) (by omega)
    have e : (us ++ [u])[k]? = us[k]? := List.getElem?_append_left (by omega)
    have et : (us ++ [u]).take k = us.take k := List.take_append_of_le_length (by omega)
    rw [spareR, spareR, e, ih]
    simp only [keepU, et]
theorem spare0_more (us : List UnitT) (u : UnitT) : spareR 0 (us ++ [u]) (us ++ [u]).length = spareR 0 us us.length ++ (if u.state = 1 then [u] else []) := by
  have e : (us ++ [u])[us.length]? = some u := by simp
  rw [List.length_append, List.length_singleton, spareR_succ e, spareR_app (Nat.le_refl _)]
  by_cases h : u.state = 1
  · rw [if_pos ⟨h, by omega⟩, if_pos h]
  · rw [if_neg (fun q => h q.1), if_neg h, List.append_nil]
theorem slotsL_more {xs : List IncT} {us : List UnitT} {u : UnitT} (h : ∀ x ∈ xs, x.id ≠ u.inc) (ps : List Plan) : slotsL xs (us ++ [u]) ps = slotsL xs us ps := by
  have key : ∀ L : List IncT, (∀ x ∈ L, x.id ≠ u.inc) → L.flatMap (slotsX (us ++ [u]) ps) = L.flatMap (slotsX us ps) := by
    intro L
    induction L with
    | nil => intro _; rfl
    | cons x L ih =>
      intro hL
      rw [List.flatMap_cons, List.flatMap_cons, ih (fun y hy => hL y (List.mem_cons_of_mem _ hy))]
      congr 1
      unfold slotsX
      rw [haveK_snoc, if_neg (hL x List.mem_cons_self)]
  exact key _ (fun x hx => h x (List.mem_filter.1 (mem_sortK.1 hx)).1)
theorem slotsU_more {xs : List IncT} {us : List UnitT} {u : UnitT} (h : ∀ x ∈ xs, x.id ≠ u.inc) (ps : List Plan) (g : Int) : slotsU xs (us ++ [u]) ps g = slotsU xs us ps g := by
  unfold slotsU
  rw [slotsL_more h]
theorem take_filter_app (p : UnitT → Bool) {A B : List UnitT} (h : (A ++ B).length ≤ 64) : ((A ++ B).filter p).take 64 = (A.filter p).take 64 ++ (B.filter p).take 64 := by
  rw [List.length_append] at h
  have h1 := List.length_filter_le p A
  have h2 := List.length_filter_le p B
  rw [List.filter_append, List.take_of_length_le (by rw [List.length_append]; omega), List.take_of_length_le (by omega), List.take_of_length_le (by omega)]
theorem candU_app (n : Nat) (E : List EdgeT) (ts : List Int) (ss : List SlotP) {A B : List UnitT} (h : (A ++ B).length ≤ 64) : candU n E ts ss (A ++ B) = candU n E ts ss A ++ candU n E ts ss B := by
  unfold candU
  exact take_filter_app _ h
theorem Va.wide {c c' : Nat → Nat → Int} {R K K' : Nat} {m : Nat → Int} (hK : K ≤ K') (hc : ∀ i k, i < R → k < K → c' i k = c i k) (h : Va c R K m) : Va c' R K' m := by
  refine ⟨fun i hi => ?_, h.inj⟩
  rcases h.at_ i hi with e | ⟨k, hk, e, hne⟩
  · exact .inl e
  · exact .inr ⟨k, by omega, e, by rw [hc i k hi hk]; exact hne⟩
theorem cnt_cho {ss : List SlotP} {us : List UnitT} {M : List (List Int)} {m : List Int} (hv : Va (cF M) ss.length us.length (mF m)) : ∀ {k : Nat}, k ≤ ss.length → ((choTo ss us M m k).length : Int) = cnA (mF m) k
  | 0, _ => by simp [choTo, cnA, sumTo]
  | k + 1, h => by
    have ih := cnt_cho hv (k := k) (by omega)
    have hs : ss[k]? = some (ss[k]'(by omega)) := List.getElem?_eq_getElem _
    rcases hv.at_ k (by omega) with e | ⟨j, hj, e, _⟩
    · rw [choTo_no (choP_none e), ih]
      show cnA (mF m) k = sumTo (fun i => if mF m i = -1 then 0 else 1) (k + 1)
      rw [sumTo]
      simp only [e, if_pos]
      show cnA (mF m) k = cnA (mF m) k + 0
      omega
    · have hu : us[j]? = some us[j] := List.getElem?_eq_getElem hj
      rw [choTo_yes (choP_some e hs hu), List.length_append, List.length_singleton]
      show ((choTo ss us M m k).length + 1 : Nat) = sumTo (fun i => if mF m i = -1 then 0 else 1) (k + 1)
      rw [sumTo]
      have hne : ¬ mF m k = -1 := by omega
      simp only [if_neg hne]
      show (((choTo ss us M m k).length + 1 : Nat) : Int) = cnA (mF m) k + 1
      omega
section
variable {n : Nat} {E : List EdgeT} {ts : List Int} {xs : List IncT} {ps : List Plan} {rsv : Int}
theorem step_more {us : List UnitT} {u : UnitT} {cs cs' : List ChoT} {u1 u2 : List UnitT} (hid : ∀ x ∈ xs, x.id ≠ u.inc) (hl : us.length + 1 ≤ 64) (h : StepR n E ts xs ps rsv 1 us cs u1) (h' : StepR n E ts xs ps rsv 1 (us ++ [u]) cs' u2) : cs.length ≤ cs'.length := by
  unfold StepR at h h'
  rw [slotsU_more hid, show effR 1 rsv = 0 from if_pos (.inl rfl)] at h'
  rw [show effR 1 rsv = 0 from if_pos (.inl rfl)] at h
  rw [spare0_more] at h'
  have hsl := spareR_len 0 us us.length
  have hB : (if u.state = 1 then [u] else ([] : List UnitT)).length ≤ 1 := by split <;> simp
  rw [candU_app n E ts _ (by rw [List.length_append]; omega)] at h'
  obtain ⟨SS, hSS⟩ : ∃ SS, SS = slotsU xs us ps 1 := ⟨_, rfl⟩
  rw [← hSS] at h h'
  obtain ⟨CU, hCU⟩ : ∃ CU, CU = candU n E ts SS (spareR 0 us us.length) := ⟨_, rfl⟩
  obtain ⟨X, hX⟩ : ∃ X, X = candU n E ts SS (if u.state = 1 then [u] else []) := ⟨_, rfl⟩
  rw [← hCU] at h h'
  rw [← hX] at h'
  obtain ⟨M, m, a1, a2, a3, rfl, _⟩ := h
  obtain ⟨M', m', b1, b2, b3, rfl, _⟩ := h'
  have hc : ∀ i k, i < SS.length → k < CU.length → cF M' i k = cF M i k := by
    intro i k hi hk
    have hs : SS[i]? = some SS[i] := List.getElem?_eq_getElem hi
    have hu : CU[k]? = some CU[k] := List.getElem?_eq_getElem hk
    have hu' : (CU ++ X)[k]? = some CU[k] := by rw [List.getElem?_append_left hk]; exact hu
    exact (b1.cost hs hu').unique (a1.cost hs hu)
  have hva := a3.va.wide (K' := (CU ++ X).length) (by rw [List.length_append]; omega) hc
  have hno := b3.best _ hva
  have h1 := cnt_cho a3.va (Nat.le_refl _)
  have h2 := cnt_cho b3.va (Nat.le_refl _)
  have h3 : ¬ cnA (mF m') SS.length < cnA (mF m) SS.length := fun q => hno (.inl q)
  omega
theorem run_more {us : List UnitT} {u : UnitT} {cs cs' : List ChoT} {u1 u2 : List UnitT} (hurg : ∀ x ∈ xs, x.urg = 1) (hid : ∀ x ∈ xs, x.id ≠ u.inc) (hl : us.length + 1 ≤ 64) (h : RunR n E ts xs ps rsv [1, 2, 3, 4, 5] us cs u1) (h' : RunR n E ts xs ps rsv [1, 2, 3, 4, 5] (us ++ [u]) cs' u2) : cs.length ≤ cs'.length := by
  obtain ⟨c1, m1, c2, h1, h2, h3⟩ := h
  obtain ⟨d1, m2, d2, k1, k2, k3⟩ := h'
  have hno : ∀ g ∈ ([2, 3, 4, 5] : List Int), ∀ x ∈ xs, x.urg ≠ g := by
    intro g hg x hx e
    rw [hurg x hx] at e
    subst e
    revert hg
    decide
  obtain ⟨rfl, _⟩ := run_none hno h2
  obtain ⟨rfl, _⟩ := run_none hno k2
  rw [h3, k3, List.append_nil, List.append_nil]
  exact step_more hid hl h1 k1
end
end
end Go.Proofs.YtimijjhdgihobaaDoor
