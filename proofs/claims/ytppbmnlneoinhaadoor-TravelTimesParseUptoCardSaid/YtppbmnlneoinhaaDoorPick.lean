/-
  Plain lemmas: the travel time of an edge at a tick, by a fold over all changes and by a search in the edge's own changes.
-/
import Derived.Test.YtppbmnlneoinhaaDoorSrch
namespace Go.Proofs.YtppbmnlneoinhaaDoor

/-- a tick within its bounds. -/
def clampT (t : Int) : Int := min (max t 0) 1099511627776
theorem clampT_lo (t : Int) : 0 ≤ clampT t := by unfold clampT; omega
theorem clampT_hi (t : Int) : clampT t ≤ 1099511627776 := by unfold clampT; omega
/-- the last change of the edge i at or before the tick. -/
def refAt (x : Int) (L : List ChgT) (i t : Int) : Int := L.foldl (fun out c => if c.edge = i ∧ c.tick ≤ clampT t then c.time else out) x
def pickT (x : Int) (r : List ChgT) (T : Int) : Int := r.foldl (fun out c => if c.tick ≤ T then c.time else out) x

theorem refAt_pick (x : Int) (L : List ChgT) (i t : Int) : refAt x L i t = pickT x (L.filter (fun c => c.edge == i)) (clampT t) := by
  unfold refAt pickT
  induction L generalizing x with
  | nil => rfl
  | cons c L ih =>
    rw [List.foldl_cons, ih]
    by_cases h : c.edge = i
    · have hb : (c.edge == i) = true := by simpa using h
      rw [List.filter_cons, if_pos hb, List.foldl_cons]
      simp only [h, true_and]
    · have hb : ¬ (c.edge == i) = true := by simpa using h
      rw [List.filter_cons, if_neg hb, if_neg (by rintro ⟨q, _⟩; exact h q)]

theorem cntB_snoc (r : List ChgT) (c : ChgT) (x : Int) : cntB (r ++ [c]) x = cntB r x + if x ≤ c.tick then 0 else 1 := by
  unfold cntB
  rw [List.map_append, List.countP_append]
  by_cases h : x ≤ c.tick <;> simp [h]
theorem cntB_le (r : List ChgT) (x : Int) : cntB r x ≤ r.length := by
  unfold cntB
  have := List.countP_le_length (l := r.map ChgT.tick) (p := fun y => !decide (x ≤ y))
  rwa [List.length_map] at this
theorem asc_init {r : List ChgT} {c : ChgT} (h : Asc (r ++ [c])) : Asc r ∧ ∀ d ∈ r, d.tick ≤ c.tick := by
  refine ⟨fun a b x y hab hx hy => ?_, fun d hd => ?_⟩
  · have ha := (List.getElem?_eq_some_iff.1 hx).1
    have hb := (List.getElem?_eq_some_iff.1 hy).1
    exact h a b x y hab (by rw [List.getElem?_append_left ha]; exact hx) (by rw [List.getElem?_append_left hb]; exact hy)
  · obtain ⟨a, ha, e⟩ := List.getElem_of_mem hd
    exact h a r.length d c (by omega) (by rw [List.getElem?_append_left ha, ← e]; simp) (by simp)
theorem asc_filter {L : List ChgT} (h : Asc L) (p : ChgT → Bool) : Asc (L.filter p) := by
  have hp : L.Pairwise (fun c d => c.tick ≤ d.tick) := by
    rw [List.pairwise_iff_getElem]
    intro i j hi hj hij
    exact h i j _ _ (by omega) (by simp) (by simp)
  have hq := hp.filter p
  rw [List.pairwise_iff_getElem] at hq
  intro a b c d hab hc hd
  obtain ⟨h1, e1⟩ := List.getElem?_eq_some_iff.1 hc
  obtain ⟨h2, e2⟩ := List.getElem?_eq_some_iff.1 hd
  by_cases q : a = b
  · subst q
    rw [hc] at hd
    injection hd with hd
    rw [hd]
    exact Int.le_refl _
  · have := hq a b h1 h2 (by omega)
    rw [e1, e2] at this
    exact this
theorem cntB_all {r : List ChgT} {x : Int} (h : ∀ d ∈ r, d.tick < x) : cntB r x = r.length := by
  unfold cntB
  rw [List.countP_eq_length.2 ?_, List.length_map]
  intro y hy
  rw [List.mem_map] at hy
  obtain ⟨d, hd, rfl⟩ := hy
  have := h d hd
  simp
  omega

theorem pick_rev (x T : Int) : ∀ (s : List ChgT), Asc s.reverse → (cntB s.reverse (T + 1) = 0 → pickT x s.reverse T = x) ∧ ∀ k, cntB s.reverse (T + 1) = k + 1 → ∃ c, s.reverse[k]? = some c ∧ pickT x s.reverse T = c.time
  | [], _ => ⟨fun _ => rfl, fun k h => by simp [cntB] at h⟩
  | c :: s, h => by
    rw [List.reverse_cons] at h ⊢
    obtain ⟨h1, h2⟩ := asc_init h
    obtain ⟨i1, i2⟩ := pick_rev x T s h1
    have hp : pickT x (s.reverse ++ [c]) T = if c.tick ≤ T then c.time else pickT x s.reverse T := by
      unfold pickT
      rw [List.foldl_append]
      rfl
    rw [cntB_snoc, hp]
    by_cases q : c.tick ≤ T
    · rw [if_neg (by omega), if_pos q, cntB_all (fun d hd => by have := h2 d hd; omega)]
      refine ⟨fun e => by omega, fun k hk => ⟨c, ?_, rfl⟩⟩
      have : k = s.reverse.length := by omega
      subst this
      simp
    · rw [if_pos (by omega), if_neg q, Nat.add_zero]
      refine ⟨i1, fun k hk => ?_⟩
      obtain ⟨d, hd, e⟩ := i2 k hk
      exact ⟨d, by rw [List.getElem?_append_left (List.getElem?_eq_some_iff.1 hd).1]; exact hd, e⟩
theorem pick_at {r : List ChgT} (h : Asc r) (x T : Int) : (cntB r (T + 1) = 0 → pickT x r T = x) ∧ ∀ k, cntB r (T + 1) = k + 1 → ∃ c, r[k]? = some c ∧ pickT x r T = c.time := by
  have := pick_rev x T r.reverse (by rw [List.reverse_reverse]; exact h)
  rwa [List.reverse_reverse] at this

/-- what At returns. -/
def atE (E : List EdgeT) (L : List ChgT) (i t : Int) : Int := if 0 ≤ i ∧ i < E.length then refAt ((E[i.toNat]?.map EdgeT.tm).getD 0) L i t else 4611686018427387904
theorem atE_out {E : List EdgeT} {i : Int} (h : ¬ (0 ≤ i ∧ i < E.length)) (L : List ChgT) (t : Int) : atE E L i t = 4611686018427387904 := if_neg h
theorem atE_in {E : List EdgeT} {x : Nat} {e : EdgeT} (h : E[x]? = some e) (L : List ChgT) (t : Int) : atE E L x t = refAt e.tm L x t := by
  have := (List.getElem?_eq_some_iff.1 h).1
  unfold atE
  rw [if_pos ⟨by omega, by omega⟩, Int.toNat_natCast, h]
  rfl
/-- what All returns. -/
def allE (E : List EdgeT) (L : List ChgT) (t : Int) : List Int := (List.range E.length).map (fun i => atE E L (i : Nat) t)
theorem allE_len (E : List EdgeT) (L : List ChgT) (t : Int) : (allE E L t).length = E.length := by simp [allE]
theorem allE_at {E : List EdgeT} {i : Nat} (h : i < E.length) (L : List ChgT) (t : Int) : (allE E L t)[i]? = some (atE E L (i : Nat) t) := by simp [allE, h]
/-- what Closed returns. -/
def closedE (E : List EdgeT) (L : List ChgT) (t : Int) (k : Nat) : List Int := ((List.range k).filter (fun i => atE E L (i : Nat) t == 4611686018427387904)).map (fun i => ((i : Nat) : Int))
theorem closedE_zero (E : List EdgeT) (L : List ChgT) (t : Int) : closedE E L t 0 = [] := rfl
theorem closedE_succ (E : List EdgeT) (L : List ChgT) (t : Int) (k : Nat) : closedE E L t (k + 1) = closedE E L t k ++ (if atE E L (k : Nat) t = 4611686018427387904 then [(k : Int)] else []) := by
  unfold closedE
  rw [List.range_succ, List.filter_append, List.map_append]
  by_cases h : atE E L (k : Nat) t = 4611686018427387904 <;> simp [h]
theorem closedE_len (E : List EdgeT) (L : List ChgT) (t : Int) (k : Nat) : (closedE E L t k).length ≤ k := by
  unfold closedE
  rw [List.length_map]
  refine Nat.le_trans (List.length_filter_le _ _) ?_
  simp
end Go.Proofs.YtppbmnlneoinhaaDoor
