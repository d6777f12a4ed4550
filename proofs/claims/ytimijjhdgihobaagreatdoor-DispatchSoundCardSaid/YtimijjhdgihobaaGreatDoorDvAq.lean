/-
  Plain: what a run of dispatch chooses is sound (samaritanlaw38.DispatchSound).
-/
import Derived.Test.YtimijjhdgihobaaGreatDoorDtQq
import Derived.Test.YtimijjhdgihobaaGreatDoorMrb
namespace Go.Proofs.YtimijjhdgihobaaGreatDoor
section
/-- two scans, the second with one more of x. -/
def Cpl (x : Int) (s s' : (Int → Int) × List Int) : Prop :=
  (∀ y, 0 ≤ s.1 y) ∧ ((s'.2.length = s.2.length ∧ cn s'.2 1 = cn s.2 1 ∧ ∀ y, s'.1 y = if y = x then s.1 y + 1 else s.1 y) ∨ (s'.2.length + 1 = s.2.length ∧ cn s.2 1 ≤ cn s'.2 1 + 1 ∧ ∀ y, s'.1 y = s.1 y))
theorem cn_snoc (l : List Int) (z : Int) : cn (l ++ [z]) 1 = cn l 1 + cn [z] 1 := by
  unfold cn
  rw [List.count_append]
theorem cn_one (z : Int) : cn [z] 1 ≤ 1 := by
  unfold cn
  have := List.count_le_length (a := (1 : Int)) (l := [z])
  simpa using this
theorem Cpl.step {x : Int} {s s' : (Int → Int) × List Int} (h : Cpl x s s') (z : Int) : Cpl x (step2 s z) (step2 s' z) := by
  obtain ⟨h0, h⟩ := h
  have hz0 := h0 z
  have c1 := cn_one z
  by_cases hz : 0 < s.1 z
  · rw [step2_yes hz]
    refine ⟨fun y => by have := h0 y; simp only [upd]; split <;> omega, ?_⟩
    rcases h with ⟨h1, h2, h3⟩ | ⟨h1, h2, h3⟩
    · have hz' : 0 < s'.1 z := by rw [h3]; split <;> omega
      rw [step2_yes hz']
      refine .inl ⟨h1, h2, fun y => ?_⟩
      have e1 := h3 y
      have e2 := h3 z
      simp only [upd]
      by_cases a : y = z
      · subst a
        rw [if_pos rfl, if_pos rfl]
        split at e1 <;> split <;> simp_all <;> omega
      · rw [if_neg a, if_neg a]
        exact e1
    · have hz' : 0 < s'.1 z := by rw [h3]; exact hz
      rw [step2_yes hz']
      refine .inr ⟨h1, h2, fun y => ?_⟩
      simp only [upd]
      rw [h3 y, h3 z]
  · rw [step2_no hz]
    refine ⟨h0, ?_⟩
    rcases h with ⟨h1, h2, h3⟩ | ⟨h1, h2, h3⟩
    · by_cases e : z = x
      · subst e
        have e3 := h3 z
        rw [if_pos rfl] at e3
        have hz' : 0 < s'.1 z := by omega
        rw [step2_yes hz']
        refine .inr ⟨by simp only [List.length_append, List.length_singleton]; omega, by simp only [cn_snoc]; omega, fun y => ?_⟩
        simp only [upd]
        have := h3 y
        split
        · rename_i a
          subst a
          omega
        · rename_i a
          rw [if_neg a] at this
          exact this
      · have e3 := h3 z
        rw [if_neg e] at e3
        have hz' : ¬ 0 < s'.1 z := by omega
        rw [step2_no hz']
        exact .inl ⟨by simp only [List.length_append, List.length_singleton]; omega, by simp only [cn_snoc]; omega, h3⟩
    · have hz' : ¬ 0 < s'.1 z := by rw [h3]; exact hz
      rw [step2_no hz']
      exact .inr ⟨by simp only [List.length_append, List.length_singleton]; omega, by simp only [cn_snoc]; omega, h3⟩
theorem Cpl.fold {x : Int} : ∀ (ws : List Int) {s s' : (Int → Int) × List Int}, Cpl x s s' → Cpl x (ws.foldl step2 s) (ws.foldl step2 s')
  | [], _, _, h => h
  | z :: ws, _, _, h => Cpl.fold ws (h.step z)
theorem unmet_ins {ws hs hs' : List Int} {x : Int} (h : ∀ y, cnt hs' y = if y = x then cnt hs y + 1 else cnt hs y) : (unmet ws hs').length ≤ (unmet ws hs).length := by
  have hc : Cpl x (pass2 hs ws) (pass2 hs' ws) := Cpl.fold ws ⟨fun y => (cnt_bd hs y).1, .inl ⟨rfl, rfl, h⟩⟩
  obtain ⟨h0, hc⟩ := hc
  have e1 := pass3_count (pass2 hs ws).2 (pass2 hs ws).1 [] (h0 2)
  have e2 := pass3_count (pass2 hs' ws).2 (pass2 hs' ws).1 [] (by
    have := h0 2
    rcases hc with ⟨_, _, h3⟩ | ⟨_, _, h3⟩
    · rw [h3]; split <;> omega
    · rw [h3]; exact this)
  have e3 : ((unmet ws hs).length : Int) = ((List.foldl step3 ((pass2 hs ws).1, []) (pass2 hs ws).2).2.length : Int) := rfl
  have e4 : ((unmet ws hs').length : Int) = ((List.foldl step3 ((pass2 hs' ws).1, []) (pass2 hs' ws).2).2.length : Int) := rfl
  have h02 := h0 2
  simp only [List.length_nil] at e1 e2
  rcases hc with ⟨h1, h2, h3⟩ | ⟨h1, h2, h3⟩
  · have := h3 2
    split at this <;> omega
  · have := h3 2
    omega
theorem haveK_app (A B : List UnitT) (z : Int) : haveK (A ++ B) z = haveK A z ++ haveK B z := by
  unfold haveK
  rw [List.filter_append, List.map_append]
theorem haveK_yes {v : UnitT} {z : Int} (h : v.inc = z) : haveK [v] z = [v.kind] := by simp [haveK, List.filter, h]
theorem haveK_no {v : UnitT} {z : Int} (h : v.inc ≠ z) : haveK [v] z = [] := by
  have : (v.inc == z) = false := by simpa using h
  simp [haveK, List.filter, this]
theorem send_none {A : List UnitT} {c : ChoT} (h : ∀ u ∈ A, u.id ≠ c.unit) : sendU A c = A := by
  unfold sendU
  conv => rhs; rw [← List.map_id A]
  refine List.map_congr_left fun u hu => ?_
  rw [if_neg (h u hu)]
  rfl
theorem sendU_app (A B : List UnitT) (c : ChoT) : sendU (A ++ B) c = sendU A c ++ sendU B c := by
  unfold sendU
  rw [List.map_append]
theorem send_split {L : List UnitT} {c : ChoT} {i : Nat} {v : UnitT} (hd : DistU L) (hv : L[i]? = some v) (he : c.unit = v.id) : L = L.take i ++ [v] ++ L.drop (i + 1) ∧ sendU L c = L.take i ++ [{ v with state := 2, inc := c.inc }] ++ L.drop (i + 1) := by
  have hi := (List.getElem?_eq_some_iff.1 hv).1
  have e1 : L = L.take i ++ [v] ++ L.drop (i + 1) := by
    rw [← take_snoc' hv, List.take_append_drop]
  refine ⟨e1, ?_⟩
  have h1 : sendU (L.take i) c = L.take i := send_none fun u hu => by
    obtain ⟨j, hj⟩ := List.getElem?_of_mem hu
    rw [List.getElem?_take] at hj
    split at hj
    · rename_i hlt
      rw [he]
      exact hd j i u v hlt hj hv
    · cases hj
  have h2 : sendU (L.drop (i + 1)) c = L.drop (i + 1) := send_none fun u hu => by
    obtain ⟨j, hj⟩ := List.getElem?_of_mem hu
    rw [List.getElem?_drop] at hj
    rw [he]
    exact fun e => hd i (i + 1 + j) v u (by omega) hv hj e.symm
  have h3 : sendU [v] c = [{ v with state := 2, inc := c.inc }] := by
    unfold sendU
    rw [List.map_cons, List.map_nil, if_pos he.symm]
  conv => lhs; rw [e1]
  rw [sendU_app, sendU_app, h1, h2, h3]
/-- the first unit that is sent had state 1 and stood at no incident. -/
def FreeAt (xs : List IncT) (L : List UnitT) (c : ChoT) : Prop := ∃ (i : Nat) (v : UnitT), L[i]? = some v ∧ c.unit = v.id ∧ v.state = 1 ∧ ∀ x ∈ xs, v.inc ≠ x.id
theorem send_slots {xs : List IncT} {L : List UnitT} {c : ChoT} (ps : List Plan) (hd : DistU L) (h : FreeAt xs L c) : ∀ x ∈ xs, (slotsX (sendU L c) ps x).length ≤ (slotsX L ps x).length := by
  obtain ⟨i, v, hv, he, _, hx⟩ := h
  obtain ⟨e1, e2⟩ := send_split hd hv he
  intro x hxm
  have hne := hx x hxm
  unfold slotsX
  rw [List.length_map, List.length_map]
  have a1 : haveK L x.id = haveK (L.take i) x.id ++ haveK (L.drop (i + 1)) x.id := by
    conv => lhs; rw [e1]
    rw [haveK_app, haveK_app, haveK_no hne, List.append_nil]
  by_cases e : c.inc = x.id
  · have a2 : haveK (sendU L c) x.id = haveK (L.take i) x.id ++ [v.kind] ++ haveK (L.drop (i + 1)) x.id := by
      rw [e2, haveK_app, haveK_app, haveK_yes (by exact e)]
    refine unmet_ins (x := v.kind) fun y => ?_
    rw [a1, a2]
    unfold cnt
    rw [List.count_append, List.count_append, List.count_append, List.count_singleton]
    by_cases q : y = v.kind
    · subst q
      simp
      omega
    · have q' : (v.kind == y) = false := by simpa using fun h => q h.symm
      rw [if_neg q, q']
      simp
  · have a2 : haveK (sendU L c) x.id = haveK (L.take i) x.id ++ haveK (L.drop (i + 1)) x.id := by
      rw [e2, haveK_app, haveK_app, haveK_no (by exact e), List.append_nil]
    rw [a1, a2]
    exact Nat.le_refl _
/-- how many slots of some urgencies there are. -/
def slotN (xs : List IncT) (us : List UnitT) (ps : List Plan) (g : Int) : Nat := ((slotsL xs us ps).filter (fun s => s.urg == g)).length
theorem slotN_le {xs : List IncT} {us us' : List UnitT} {ps : List Plan} (h : ∀ x ∈ xs, (slotsX us' ps x).length ≤ (slotsX us ps x).length) (g : Int) : slotN xs us' ps g ≤ slotN xs us ps g := by
  unfold slotN
  rw [slots_urg, slots_urg]
  have key : ∀ (ys : List IncT), (∀ y ∈ ys, y ∈ xs) → (ys.flatMap (slotsX us' ps)).length ≤ (ys.flatMap (slotsX us ps)).length := by
    intro ys
    induction ys with
    | nil => intro _; simp
    | cons y ys ih =>
      intro hy
      rw [List.flatMap_cons, List.flatMap_cons, List.length_append, List.length_append]
      have h1 := h y (hy y List.mem_cons_self)
      have h2 := ih (fun z hz => hy z (List.mem_cons_of_mem _ hz))
      omega
  refine key _ fun y hy => ?_
  have h1 := List.mem_filter.1 (mem_sortK.1 hy)
  exact (List.mem_filter.1 h1.1).1
theorem SameU.dist {us L : List UnitT} (h : SameU us L) (hd : DistU us) : DistU L := by
  intro i j u v hij hu hv
  have hi : i < us.length := by rw [← h.len]; exact (List.getElem?_eq_some_iff.1 hu).1
  have hj : j < us.length := by rw [← h.len]; exact (List.getElem?_eq_some_iff.1 hv).1
  have a := h.same i _ u (List.getElem?_eq_getElem hi) hu
  have b := h.same j _ v (List.getElem?_eq_getElem hj) hv
  rw [a.1, b.1]
  exact hd i j _ _ hij (List.getElem?_eq_getElem hi) (List.getElem?_eq_getElem hj)
theorem sends_slots {xs : List IncT} (ps : List Plan) (g : Int) : ∀ {cs : List ChoT} {L : List UnitT}, DistU L → cs.Pairwise (fun a b => a.unit ≠ b.unit) → (∀ c ∈ cs, FreeAt xs L c) → slotN xs (cs.foldl sendU L) ps g ≤ slotN xs L ps g
  | [], _, _, _, _ => Nat.le_refl _
  | c :: cs, L, hd, hp, hf => by
    have h1 := slotN_le (send_slots ps hd (hf c List.mem_cons_self)) g
    obtain ⟨hp1, hp2⟩ := List.pairwise_cons.1 hp
    have h2 := sends_slots ps g (cs := cs) (L := sendU L c) (((SameU.refl L).send c).dist hd) hp2 (fun d hdm => by
      obtain ⟨i, v, hv, he, hs, hx⟩ := hf d (List.mem_cons_of_mem _ hdm)
      refine ⟨i, v, ?_, he, hs, hx⟩
      unfold sendU
      rw [List.getElem?_map, hv]
      have e : ¬ v.id = c.unit := fun e => hp1 d hdm (e.symm.trans he.symm)
      simp [e])
    exact Nat.le_trans h2 h1
theorem spare_sub {r : Int} {us : List UnitT} : ∀ (k : Nat), (spareR r us k).Sublist (us.take k)
  | 0 => by simp [spareR]
  | k + 1 => by
    have ih := spare_sub (r := r) (us := us) k
    cases hk : us[k]? with
    | none =>
      rw [spareR, hk]
      exact ih.trans (List.take_sublist_take_left (by omega))
    | some u =>
      rw [spareR, hk, take_snoc' hk]
      simp only
      split
      · exact ih.append (List.Sublist.refl _)
      · exact ih.trans (List.sublist_append_left _ _)
theorem cand_dist {n : Nat} {E : List EdgeT} {ts : List Int} {ss : List SlotP} {r : Int} {L : List UnitT} (hd : DistU L) : DistU (candU n E ts ss (spareR r L L.length)) := by
  have h1 : L.Pairwise (fun u v => u.id ≠ v.id) := List.pairwise_iff_getElem.2 fun i j hi hj hij => hd i j _ _ hij (List.getElem?_eq_getElem hi) (List.getElem?_eq_getElem hj)
  have h2 : (candU n E ts ss (spareR r L L.length)).Sublist L := by
    have := spare_sub (r := r) (us := L) L.length
    rw [List.take_length] at this
    exact ((List.take_sublist _ _).trans List.filter_sublist).trans this
  have h3 := List.pairwise_iff_getElem.1 (h1.sublist h2)
  intro i j u v hij hu hv
  obtain ⟨hi, rfl⟩ := List.getElem?_eq_some_iff.1 hu
  obtain ⟨hj, rfl⟩ := List.getElem?_eq_some_iff.1 hv
  exact h3 i j hi hj hij
theorem choTo_pair {ss : List SlotP} {us : List UnitT} {M : List (List Int)} {m : List Int} {R : Nat} (hd : DistU us) (hinj : ∀ i j, i < R → j < R → mF m i = mF m j → mF m i ≠ -1 → i = j) : ∀ k, k ≤ R → (choTo ss us M m k).Pairwise (fun a b => a.unit ≠ b.unit)
  | 0, _ => by simp [choTo]
  | k + 1, hk => by
    rw [choTo_succ]
    refine List.pairwise_append.2 ⟨choTo_pair hd hinj k (by omega), ?_, fun a ha b hb => ?_⟩
    · cases choP ss us M m k <;> simp
    · obtain ⟨i, j, s, u, hi, hj, _, hu, rfl⟩ := choTo_mem ha
      rw [Option.mem_toList] at hb
      unfold choP at hb
      split at hb
      · rename_i h0
        split at hb
        · rename_i s' u' hs' hu'
          injection hb with hb
          subst hb
          intro e
          have e : u.id = u'.id := e
          have := hd.eq hu hu' e
          have := hinj i k (by omega) (by omega) (by omega) (by omega)
          omega
        · cases hb
      · cases hb
section
variable {n : Nat} {E : List EdgeT} {ts : List Int} {xs : List IncT} {ps : List Plan} {rsv : Int}
/-- what the law asks of a choice. -/
structure GoodC (n : Nat) (E : List EdgeT) (ts : List Int) (xs : List IncT) (L : List UnitT) (c : ChoT) : Prop where
  unit : ∃ (i : Nat) (v : UnitT), L[i]? = some v ∧ c.unit = v.id ∧ v.state = 1 ∧ satB v.kind c.kind = true ∧ ∃ (k : Nat) (x : IncT), xs[k]? = some x ∧ openI x = true ∧ c.inc = x.id ∧ TT n E ts v.node x.nodes c.time
  time : c.time ≠ 4611686018427387904
theorem StepR.good {g : Int} {L L' : List UnitT} {cs : List ChoT} (h : StepR n E ts xs ps rsv g L cs L') : ∀ c ∈ cs, GoodC n E ts xs L c := by
  intro c hc
  obtain ⟨M, m, hM, _, hB, rfl, _⟩ := h
  obtain ⟨i, j, s, v, hi, hmj, hs, hv, rfl⟩ := choTo_mem hc
  have hcost := hM.cost hs hv
  have hne : cF M i j ≠ 4611686018427387904 := by
    rcases hB.va.at_ i hi with e | ⟨k, _, e, h3⟩
    · omega
    · have : k = j := by omega
      subst this
      exact h3
  obtain ⟨k, hk, hkeep⟩ := spare_at (candU_mem (List.mem_of_getElem? hv))
  have hsat : satB v.kind s.kind = true := by
    cases e : satB v.kind s.kind
    · exact absurd (hcost.2 e) hne
    · rfl
  obtain ⟨x, hx, ho, e1, _, e2⟩ := slotsL_mem (slotsU_mem (List.mem_of_getElem? hs)).1
  obtain ⟨q, hq⟩ := List.getElem?_of_mem hx
  exact ⟨⟨k, v, hk, rfl, hkeep.1, hsat, q, x, hq, ho, e1, by rw [← e2]; exact hcost.1 hsat⟩, hne⟩
theorem StepR.pair {g : Int} {L L' : List UnitT} {cs : List ChoT} (hd : DistU L) (h : StepR n E ts xs ps rsv g L cs L') : cs.Pairwise (fun a b => a.unit ≠ b.unit) := by
  obtain ⟨M, m, _, _, hB, rfl, _⟩ := h
  exact choTo_pair (cand_dist hd) hB.va.inj _ (Nat.le_refl _)
theorem StepR.few {g : Int} {L L' : List UnitT} {cs : List ChoT} (h : StepR n E ts xs ps rsv g L cs L') : cs.length ≤ slotN xs L ps g := by
  obtain ⟨M, m, _, _, _, rfl, _⟩ := h
  have h1 := choTo_len (slotsU xs L ps g) (candU n E ts (slotsU xs L ps g) (spareR (effR g rsv) L L.length)) M m (slotsU xs L ps g).length
  have h2 : (slotsU xs L ps g).length ≤ slotN xs L ps g := by
    unfold slotsU slotN
    rw [List.length_take]
    omega
  omega
/-- who was sent is not free. -/
theorem sends_state {cs : List ChoT} : ∀ {L : List UnitT} {i : Nat} {v : UnitT}, (cs.foldl sendU L)[i]? = some v → v.state = 1 → ∀ c ∈ cs, c.unit ≠ v.id := by
  induction cs with
  | nil => intro L i v _ _ c hc; simp at hc
  | cons c cs ih =>
    intro L i v hv hs d hd
    rcases List.mem_cons.1 hd with rfl | hd
    · have h := (SameU.refl (sendU L d)).sends (cs := cs)
      have hv' := h.at hv hs
      obtain ⟨u, hu, e⟩ := send_at hv'
      intro q
      rw [e] at q hs
      split at hs
      · cases hs
      · rename_i hne
        rw [if_neg hne] at q
        exact hne q.symm
    · exact ih hv hs d hd
theorem run_good {us : List UnitT} (hd : DistU us) : ∀ {l : List Int} {L L' : List UnitT} {cs : List ChoT}, SameU us L → RunR n E ts xs ps rsv l L cs L' → (∀ c ∈ cs, GoodC n E ts xs us c) ∧ cs.Pairwise (fun a b => a.unit ≠ b.unit) ∧ ∀ c ∈ cs, ∃ (i : Nat) (v : UnitT), L[i]? = some v ∧ c.unit = v.id ∧ v.state = 1
  | [], _, _, _, _, h => by
    rw [h.1]
    exact ⟨fun c hc => by simp at hc, List.Pairwise.nil, fun c hc => by simp at hc⟩
  | g :: r, L, _, _, hs, ⟨c1, m1, c2, h1, h2, h3⟩ => by
    subst h3
    have hdL := hs.dist hd
    have hs1 : SameU us m1 := by rw [h1.left]; exact hs.sends
    obtain ⟨i1, i2, i3⟩ := run_good hd hs1 h2
    have g1 := h1.good
    refine ⟨fun c hc => ?_, List.pairwise_append.2 ⟨h1.pair hdL, i2, fun a ha b hb => ?_⟩, fun c hc => ?_⟩
    · rcases List.mem_append.1 hc with hc | hc
      · obtain ⟨⟨i, v, hv, e1, e2, e3, e4⟩, e5⟩ := g1 c hc
        exact ⟨⟨i, v, hs.at hv e2, e1, e2, e3, e4⟩, e5⟩
      · exact i1 c hc
    · obtain ⟨i, v, hv, e1, e2⟩ := i3 b hb
      rw [h1.left] at hv
      rw [e1]
      exact sends_state hv e2 a ha
    · rcases List.mem_append.1 hc with hc | hc
      · obtain ⟨⟨i, v, hv, e1, e2, _⟩, _⟩ := g1 c hc
        exact ⟨i, v, hv, e1, e2⟩
      · obtain ⟨i, v, hv, e1, e2⟩ := i3 c hc
        rw [h1.left] at hv
        exact ⟨i, v, ((SameU.refl L).sends (cs := c1)).at hv e2, e1, e2⟩
/-- how many slots of the urgencies of a list there are. -/
theorem run_few {us : List UnitT} (hd : DistU us) (hf : ∀ u ∈ us, u.state = 1 → ∀ x ∈ xs, u.inc ≠ x.id) : ∀ {l : List Int} {L L' : List UnitT} {cs : List ChoT}, l.Nodup → SameU us L → (∀ g, slotN xs L ps g ≤ slotN xs us ps g) → RunR n E ts xs ps rsv l L cs L' → cs.length ≤ ((slotsL xs us ps).filter (fun s => decide (s.urg ∈ l))).length
  | [], _, _, _, _, _, _, h => by
    rw [h.1]
    simp
  | g :: r, L, _, _, hn, hs, hsl, ⟨c1, m1, c2, h1, h2, h3⟩ => by
    subst h3
    obtain ⟨hn1, hn2⟩ := List.nodup_cons.1 hn
    have hdL := hs.dist hd
    have hs1 : SameU us m1 := by rw [h1.left]; exact hs.sends
    have ih := run_few hd hf hn2 hs1 (fun g' => by
      rw [h1.left]
      refine Nat.le_trans (sends_slots ps g' hdL (h1.pair hdL) fun c hc => ?_) (hsl g')
      obtain ⟨⟨i, v, hv, e1, e2, _⟩, _⟩ := h1.good c hc
      exact ⟨i, v, hv, e1, e2, hf v (List.mem_of_getElem? (hs.at hv e2)) e2⟩) h2
    have h4 := h1.few
    have h5 := hsl g
    have h6 : slotN xs us ps g + ((slotsL xs us ps).filter (fun s => decide (s.urg ∈ r))).length = ((slotsL xs us ps).filter (fun s => decide (s.urg ∈ g :: r))).length := by
      unfold slotN
      induction slotsL xs us ps with
      | nil => rfl
      | cons s S ihS =>
        by_cases e : s.urg = g
        · have a1 : (s.urg == g) = true := by simpa using e
          have a2 : decide (s.urg ∈ r) = false := by rw [e]; exact decide_eq_false hn1
          have a3 : decide (s.urg ∈ g :: r) = true := by rw [e]; exact decide_eq_true List.mem_cons_self
          simp only [List.filter_cons, a1, a2, a3, ↓reduceIte, Bool.false_eq_true, List.length_cons]
          omega
        · have a1 : (s.urg == g) = false := by simpa using e
          by_cases e2 : s.urg ∈ r
          · have a2 : decide (s.urg ∈ r) = true := decide_eq_true e2
            have a3 : decide (s.urg ∈ g :: r) = true := decide_eq_true (List.mem_cons_of_mem _ e2)
            simp only [List.filter_cons, a1, a2, a3, ↓reduceIte, Bool.false_eq_true, List.length_cons]
            omega
          · have e3 : ¬ s.urg ∈ g :: r := fun h => by
              rcases List.mem_cons.1 h with h | h
              · exact e h
              · exact e2 h
            have a2 : decide (s.urg ∈ r) = false := decide_eq_false e2
            have a3 : decide (s.urg ∈ g :: r) = false := decide_eq_false e3
            simp only [List.filter_cons, a1, a2, a3, ↓reduceIte, Bool.false_eq_true]
            exact ihS
    rw [List.length_append]
    omega
theorem run_slots {us L' : List UnitT} {cs : List ChoT} (hd : DistU us) (hf : ∀ u ∈ us, u.state = 1 → ∀ x ∈ xs, u.inc ≠ x.id) (h : RunR n E ts xs ps rsv [1, 2, 3, 4, 5] us cs L') : cs.length ≤ (slotsL xs us ps).length :=
  Nat.le_trans (run_few hd hf (by decide) (SameU.refl us) (fun _ => Nat.le_refl _) h) (List.length_filter_le _ _)
end
end
end Go.Proofs.YtimijjhdgihobaaGreatDoor
