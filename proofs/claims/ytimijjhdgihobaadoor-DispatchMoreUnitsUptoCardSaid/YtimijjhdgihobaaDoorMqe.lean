/-
  Plain: lists under way in assignment.square: the square of a cost matrix, the two loops over the columns. No program in sight.
  More words for memory: append of a whole slice (nil, empty or not) onto a row of the call's own; cuts of a slice.
  No condition: plain lemmas over whatever program.
  Slices of structs as they lie in memory: each element a fixed number of cells; append of one element.
  No condition: plain lemmas over whatever program.
-/
import Derived.Test.YtimijjhdgihobaaDoorMqd
import Derived.Test.YtimijjhdgihobaaDoorMqa
import Derived.Deep.AppendLies
import Derived.RegionTactic
import Derived.WalkLawsBesides
import Derived.WalkSpells
import Derived.BigGuardPart
import Derived.Deep.Light
namespace Go.Proofs.YtimijjhdgihobaaDoor
section
theorem mF_set {L : List Int} {k : Nat} (h : k < L.length) (x : Int) : mF (L.set k x) = putF (mF L) k x := by
  funext j
  unfold mF
  by_cases e : j = k
  · subst e
    rw [putF_eq, List.getElem?_set_self h]
    rfl
  · rw [putF_ne _ e, List.getElem?_set_ne (fun q => e q.symm)]
def bF (L : List Bool) (j : Nat) : Bool := L[j]?.getD false
theorem bF_set {L : List Bool} {k : Nat} (h : k < L.length) (x : Bool) : bF (L.set k x) = putF (bF L) k x := by
  funext j
  unfold bF
  by_cases e : j = k
  · subst e
    rw [putF_eq, List.getElem?_set_self h]
    rfl
  · rw [putF_ne _ e, List.getElem?_set_ne (fun q => e q.symm)]
theorem bF_get {L : List Bool} {j : Nat} (h : j < L.length) : L[j]? = some (bF L j) := by simp [bF, h]
/-- how many columns are not used. -/
def left (L : List Bool) : Nat := L.countP (fun b => !b)
theorem left_set : ∀ {L : List Bool} {k : Nat}, L[k]? = some false → left (L.set k true) + 1 = left L
  | [], k, h => by simp at h
  | a :: L, 0, h => by
    simp only [List.getElem?_cons_zero, Option.some.injEq] at h
    subst h
    simp [left]
  | a :: L, k + 1, h => by
    have ih := left_set (L := L) (k := k) (by simpa using h)
    unfold left at ih ⊢
    rw [List.set_cons_succ, List.countP_cons, List.countP_cons, ← ih]
    omega

/-- a number that may stand in a cost matrix. -/
def isC (x : Int) : Prop := x = 4611686018427387904 ∨ (0 ≤ x ∧ x ≤ 1099511627776)
/-- row i of the square. -/
def sqRow (cost : List (List Int)) (R K i : Nat) : List Int := if i < R then (cost[i]?.getD []) ++ (List.replicate R 4611686018427387904).set i 140737488355328 else List.replicate (R + K) 0
def sqL (cost : List (List Int)) (R K : Nat) : List (List Int) := (List.range (R + K)).map (sqRow cost R K)
section
variable {cost : List (List Int)} {R K : Nat}
theorem row_len (hK : ∀ l ∈ cost, l.length = K) {i : Nat} (hi : i < cost.length) : (cost[i]?.getD []).length = K := by
  rw [List.getElem?_eq_getElem hi]
  exact hK _ (List.getElem_mem hi)
theorem sqRow_len (hR : cost.length = R) (hK : ∀ l ∈ cost, l.length = K) (i : Nat) : (sqRow cost R K i).length = R + K := by
  unfold sqRow
  split
  · rw [List.length_append, row_len hK (by omega)]
    simp
    omega
  · simp
theorem cF_sq {i j : Nat} (hi : i < R + K) : cF (sqL cost R K) i j = (sqRow cost R K i)[j]?.getD 0 := by
  unfold cF sqL
  rw [List.getElem?_map, List.getElem?_range hi]
  rfl
theorem sq_low (hR : cost.length = R) (hK : ∀ l ∈ cost, l.length = K) {i j : Nat} (hi : i < R) (hj : j < K) : cF (sqL cost R K) i j = cF cost i j := by
  rw [cF_sq (by omega), sqRow, if_pos hi, List.getElem?_append_left (by rw [row_len hK (by omega)]; exact hj)]
  rfl
theorem sq_high (hR : cost.length = R) (hK : ∀ l ∈ cost, l.length = K) {i k : Nat} (hi : i < R) (hk : k < R) : cF (sqL cost R K) i (K + k) = if k = i then 140737488355328 else 4611686018427387904 := by
  rw [cF_sq (by omega), sqRow, if_pos hi, List.getElem?_append_right (by rw [row_len hK (by omega)]; omega), row_len hK (by omega), show K + k - K = k by omega]
  by_cases e : k = i
  · rw [if_pos e, e, List.getElem?_set_self (by simpa using hi)]
    rfl
  · rw [if_neg e, List.getElem?_set_ne (fun q => e q.symm), List.getElem?_replicate, if_pos hk]
    rfl
theorem sq_rest {i j : Nat} (hi : R ≤ i) (hi2 : i < R + K) (hj : j < R + K) : cF (sqL cost R K) i j = 0 := by
  rw [cF_sq hi2, sqRow, if_neg (by omega), List.getElem?_replicate, if_pos hj]
  rfl
theorem cost_c (hR : cost.length = R) (hK : ∀ l ∈ cost, l.length = K) (hC : ∀ l ∈ cost, ∀ x ∈ l, isC x) {i j : Nat} (hi : i < R) (hj : j < K) : isC (cF cost i j) := by
  have hm := List.getElem_mem (l := cost) (show i < cost.length by omega)
  have hl := hK _ hm
  have e : cost[i]? = some cost[i] := List.getElem?_eq_getElem (by omega)
  unfold cF
  rw [e]
  show isC ((cost[i])[j]?.getD 0)
  rw [List.getElem?_eq_getElem (by omega)]
  exact hC _ hm _ (List.getElem_mem (l := cost[i]) (by omega))
theorem sq_cs (hR : cost.length = R) (h64 : R ≤ 64) (k64 : K ≤ 64) (hK : ∀ l ∈ cost, l.length = K) (hC : ∀ l ∈ cost, ∀ x ∈ l, isC x) : Cs (cF (sqL cost R K)) R K (R + K) where
  n := rfl
  r64 := h64
  k64 := k64
  bnd := fun i j hi hj => by
    by_cases h1 : i < R
    · by_cases h2 : j < K
      · rw [sq_low hR hK h1 h2]
        rcases cost_c hR hK hC h1 h2 with h | h
        · exact .inl h
        · exact .inr ⟨h.1, by have := h.2; omega⟩
      · obtain ⟨k, rfl⟩ : ∃ k, j = K + k := ⟨j - K, by omega⟩
        rw [sq_high hR hK h1 (by omega)]
        split <;> omega
    · rw [sq_rest (by omega) hi hj]
      omega
  own := fun i hi => by rw [sq_high hR hK hi hi, if_pos rfl]
  oth := fun i k hi hk hne => by rw [sq_high hR hK hi hk, if_neg hne]
  add := fun i j hR' hi hj => sq_rest hR' hi hj
end

/-- the loop over the columns that looks at a row, before column k. -/
structure ScanH (C : Nat → Nat → Int) (N : Nat) (u v : Nat → Int) (us : Nat → Bool) (row : Nat) (last : Int) (S0 B0 : Nat → Int) (k : Nat) (S B : Nat → Int) (nx : Int) : Prop where
  used : ∀ j, j < N → (k ≤ j ∨ us j = true) → S j = S0 j ∧ B j = B0 j
  yes : ∀ j, j < k → us j = false → C row j ≠ 4611686018427387904 → C row j - u row - v j < S0 j → S j = C row j - u row - v j ∧ B j = last
  no : ∀ j, j < k → us j = false → (C row j ≠ 4611686018427387904 → ¬ C row j - u row - v j < S0 j) → S j = S0 j ∧ B j = B0 j
  nx : (nx = -1 ∧ ∀ j, j < k → us j = true) ∨ ∃ x : Nat, x < k ∧ nx = x ∧ us x = false ∧ ∀ j, j < k → us j = false → S x ≤ S j
section
variable {C : Nat → Nat → Int} {N : Nat} {u v : Nat → Int} {us : Nat → Bool} {row : Nat} {last : Int} {S0 B0 S B : Nat → Int} {k : Nat} {nx : Int}
theorem ScanH.start : ScanH C N u v us row last S0 B0 0 S0 B0 (-1) :=
  ⟨fun _ _ _ => ⟨rfl, rfl⟩, fun j h => by omega, fun j h => by omega, .inl ⟨rfl, fun j h => by omega⟩⟩
theorem ScanH.skip (h : ScanH C N u v us row last S0 B0 k S B nx) (hu : us k = true) : ScanH C N u v us row last S0 B0 (k + 1) S B nx := by
  refine ⟨fun j hj hq => h.used j hj (hq.imp (fun q => by omega) id), fun j hj hf => ?_, fun j hj hf => ?_, ?_⟩
  · have e : j ≠ k := fun e => by rw [e, hu] at hf; cases hf
    exact h.yes j (by omega) hf
  · have e : j ≠ k := fun e => by rw [e, hu] at hf; cases hf
    exact h.no j (by omega) hf
  · rcases h.nx with ⟨h1, h2⟩ | ⟨x, h1, h2, h3, h4⟩
    · refine .inl ⟨h1, fun j hj => ?_⟩
      by_cases e : j = k
      · rw [e]; exact hu
      · exact h2 j (by omega)
    · refine .inr ⟨x, by omega, h2, h3, fun j hj hf => ?_⟩
      have e : j ≠ k := fun e => by rw [e, hu] at hf; cases hf
      exact h4 j (by omega) hf
/-- a column that is not used: S', B' are the rows after the comparison. -/
theorem ScanH.look (h : ScanH C N u v us row last S0 B0 k S B nx) (hk : k < N) (hu : us k = false) {S' B' : Nat → Int}
    (hS : (C row k ≠ 4611686018427387904 ∧ C row k - u row - v k < S k ∧ S' = putF S k (C row k - u row - v k) ∧ B' = putF B k last) ∨ ((C row k ≠ 4611686018427387904 → ¬ C row k - u row - v k < S k) ∧ S' = S ∧ B' = B))
    {nx' : Int} (hn : ((nx < 0 ∨ ∃ x : Nat, nx = x ∧ S' k < S' x) ∧ nx' = k) ∨ (∃ x : Nat, nx = x ∧ ¬ S' k < S' x ∧ nx' = nx)) :
    ScanH C N u v us row last S0 B0 (k + 1) S' B' nx' := by
  have e0 := h.used k hk (.inl (Nat.le_refl _))
  have hoth : ∀ j, j ≠ k → S' j = S j ∧ B' j = B j := by
    intro j hj
    rcases hS with ⟨_, _, e1, e2⟩ | ⟨_, e1, e2⟩
    · rw [e1, e2, putF_ne _ hj, putF_ne _ hj]; exact ⟨rfl, rfl⟩
    · rw [e1, e2]; exact ⟨rfl, rfl⟩
  refine ⟨fun j hj hq => ?_, fun j hj hf h1 h2 => ?_, fun j hj hf h1 => ?_, ?_⟩
  · have e : j ≠ k := by
      rintro rfl
      rcases hq with hq | hq
      · omega
      · rw [hu] at hq; cases hq
    rw [(hoth j e).1, (hoth j e).2]
    exact h.used j hj (hq.imp (fun q => by omega) id)
  · by_cases e : j = k
    · subst e
      rcases hS with ⟨_, _, e1, e2⟩ | ⟨q, e1, e2⟩
      · rw [e1, e2, putF_eq, putF_eq]; exact ⟨rfl, rfl⟩
      · exact absurd (by rw [e0.1]; exact h2) (q h1)
    · rw [(hoth j e).1, (hoth j e).2]
      exact h.yes j (by omega) hf h1 h2
  · by_cases e : j = k
    · subst e
      rcases hS with ⟨q1, q2, e1, e2⟩ | ⟨q, e1, e2⟩
      · exact absurd (by rw [← e0.1]; exact q2) (h1 q1)
      · rw [e1, e2]; exact e0
    · rw [(hoth j e).1, (hoth j e).2]
      exact h.no j (by omega) hf h1
  · right
    rcases hn with ⟨h1, h2⟩ | ⟨x, h1, h2, h3⟩
    · refine ⟨k, by omega, h2, hu, fun j hj hf => ?_⟩
      by_cases e : j = k
      · rw [e]; exact Int.le_refl _
      · rcases h.nx with ⟨q1, q2⟩ | ⟨x, q1, q2, q3, q4⟩
        · have := q2 j (by omega)
          rw [hf] at this; cases this
        · rcases h1 with h1 | ⟨y, h1, h4⟩
          · omega
          · obtain rfl : y = x := by omega
            have e1 := (hoth y (by omega)).1
            have e2 := (hoth j e).1
            have := q4 j (by omega) hf
            omega
    · rcases h.nx with ⟨q1, q2⟩ | ⟨y, q1, q2, q3, q4⟩
      · omega
      · obtain rfl : y = x := by omega
        refine ⟨y, by omega, by omega, q3, fun j hj hf => ?_⟩
        have e1 := (hoth y (by omega)).1
        by_cases e : j = k
        · rw [e]; omega
        · have e2 := (hoth j e).1
          have := q4 j (by omega) hf
          omega
end

/-- the loop over the columns that adapts the prices, before column k. -/
structure Adapt (N s : Nat) (ro : Nat → Int) (us : Nat → Bool) (d : Int) (u v S : Nat → Int) (k : Nat) (U V T : Nat → Int) : Prop where
  row : ∀ r, r < N → ((r = s ∨ ∃ j, j < k ∧ us j = true ∧ ro j = (r : Int)) → U r = u r + d) ∧ (¬ (r = s ∨ ∃ j, j < k ∧ us j = true ∧ ro j = (r : Int)) → U r = u r)
  col : ∀ j, j < N → ((j < k ∧ us j = true) → V j = v j - d) ∧ (¬ (j < k ∧ us j = true) → V j = v j)
  slk : ∀ j, j < N → ((j < k ∧ us j = false ∧ S j ≠ 4611686018427387904) → T j = S j - d) ∧ (¬ (j < k ∧ us j = false ∧ S j ≠ 4611686018427387904) → T j = S j)
section
variable {N s : Nat} {ro : Nat → Int} {us : Nat → Bool} {d : Int} {u v S U V T : Nat → Int} {k : Nat}
theorem Adapt.start : Adapt N s ro us d u v S 0 (putF u s (u s + d)) v S := by
  refine ⟨fun r hr => ⟨fun h => ?_, fun h => ?_⟩, fun j hj => ⟨fun h => by omega, fun _ => rfl⟩, fun j hj => ⟨fun h => by omega, fun _ => rfl⟩⟩
  · rcases h with e | ⟨j, hj, _⟩
    · rw [e, putF_eq]
    · omega
  · rw [putF_ne _ (fun e => h (.inl e))]
theorem Adapt.used (h : Adapt N s ro us d u v S k U V T) (hk : k < N) (hu : us k = true) {r : Nat} (hr : ro k = (r : Int)) (hrs : r ≠ s) (hinj : ∀ j, j < k → us j = true → ro j ≠ (r : Int)) (hrN : r < N) :
    U r = u r ∧ V k = v k ∧ Adapt N s ro us d u v S (k + 1) (putF U r (U r + d)) (putF V k (V k - d)) T := by
  have h1 : U r = u r := (h.row r hrN).2 (by
    rintro (e | ⟨j, hj, q1, q2⟩)
    · exact hrs e
    · exact hinj j hj q1 q2)
  have h2 : V k = v k := (h.col k hk).2 (by omega)
  refine ⟨h1, h2, fun q hq => ⟨fun hh => ?_, fun hh => ?_⟩, fun j hj => ⟨fun hh => ?_, fun hh => ?_⟩, fun j hj => ⟨fun hh => ?_, fun hh => ?_⟩⟩
  · by_cases e : q = r
    · rw [e, putF_eq, h1]
    · rw [putF_ne _ e]
      refine (h.row q hq).1 ?_
      rcases hh with hh | ⟨j, hj, q1, q2⟩
      · exact .inl hh
      · by_cases e2 : j = k
        · subst e2; exact absurd (by omega : q = r) e
        · exact .inr ⟨j, by omega, q1, q2⟩
  · have e : q ≠ r := by
      rintro rfl
      exact hh (.inr ⟨k, by omega, hu, hr⟩)
    rw [putF_ne _ e]
    refine (h.row q hq).2 ?_
    rintro (q1 | ⟨j, hj, q1, q2⟩)
    · exact hh (.inl q1)
    · exact hh (.inr ⟨j, by omega, q1, q2⟩)
  · by_cases e : j = k
    · rw [e, putF_eq, h2]
    · rw [putF_ne _ e]
      exact (h.col j hj).1 ⟨by omega, hh.2⟩
  · have e : j ≠ k := by
      rintro rfl
      exact hh ⟨by omega, hu⟩
    rw [putF_ne _ e]
    exact (h.col j hj).2 fun q => hh ⟨by omega, q.2⟩
  · have e : j ≠ k := by
      rintro rfl
      rw [hu] at hh
      cases hh.2.1
    exact (h.slk j hj).1 ⟨by omega, hh.2⟩
  · exact (h.slk j hj).2 fun q => hh ⟨by omega, q.2⟩
theorem Adapt.free (h : Adapt N s ro us d u v S k U V T) (hk : k < N) (hu : us k = false) {T' : Nat → Int} (hT : (S k ≠ 4611686018427387904 ∧ T' = putF T k (T k - d)) ∨ (S k = 4611686018427387904 ∧ T' = T)) :
    T k = S k ∧ Adapt N s ro us d u v S (k + 1) U V T' := by
  have h1 : T k = S k := (h.slk k hk).2 (by omega)
  refine ⟨h1, fun q hq => ⟨fun hh => ?_, fun hh => ?_⟩, fun j hj => ⟨fun hh => ?_, fun hh => ?_⟩, fun j hj => ⟨fun hh => ?_, fun hh => ?_⟩⟩
  · refine (h.row q hq).1 ?_
    rcases hh with hh | ⟨j, hj, q1, q2⟩
    · exact .inl hh
    · refine .inr ⟨j, ?_, q1, q2⟩
      have : j ≠ k := by rintro rfl; rw [hu] at q1; cases q1
      omega
  · refine (h.row q hq).2 ?_
    rintro (q1 | ⟨j, hj, q1, q2⟩)
    · exact hh (.inl q1)
    · exact hh (.inr ⟨j, by omega, q1, q2⟩)
  · refine (h.col j hj).1 ⟨?_, hh.2⟩
    have : j ≠ k := by rintro rfl; rw [hu] at hh; cases hh.2
    omega
  · exact (h.col j hj).2 fun q => hh ⟨by omega, q.2⟩
  · by_cases e : j = k
    · subst e
      rcases hT with ⟨q1, q2⟩ | ⟨q1, q2⟩
      · rw [q2, putF_eq, h1]
      · exact absurd q1 hh.2.2
    · have e2 : T' j = T j := by
        rcases hT with ⟨_, q2⟩ | ⟨_, q2⟩
        · rw [q2, putF_ne _ e]
        · rw [q2]
      rw [e2]
      exact (h.slk j hj).1 ⟨by omega, hh.2⟩
  · by_cases e : j = k
    · subst e
      rcases hT with ⟨q1, q2⟩ | ⟨q1, q2⟩
      · exact absurd ⟨by omega, hu, q1⟩ hh
      · rw [q2]; exact h1
    · have e2 : T' j = T j := by
        rcases hT with ⟨_, q2⟩ | ⟨_, q2⟩
        · rw [q2, putF_ne _ e]
        · rw [q2]
      rw [e2]
      exact (h.slk j hj).2 fun q => hh ⟨by omega, q.2⟩
/-- all columns are done. -/
theorem Adapt.done (h : Adapt N s ro us d u v S N U V T) :
    (∀ r, r < N → (Rch N s ro us r → U r = u r + d) ∧ (¬ Rch N s ro us r → U r = u r)) ∧ (∀ j, j < N → (us j = true → V j = v j - d) ∧ (us j = false → V j = v j)) ∧
    (∀ j, j < N → us j = false → (S j = 4611686018427387904 → T j = S j) ∧ (S j ≠ 4611686018427387904 → T j = S j - d)) := by
  refine ⟨h.row, fun j hj => ⟨fun q => (h.col j hj).1 ⟨hj, q⟩, fun q => (h.col j hj).2 fun q2 => ?_⟩, fun j hj hf => ⟨fun q => (h.slk j hj).2 fun q2 => q2.2.2 q, fun q => (h.slk j hj).1 ⟨hj, hf, q⟩⟩⟩
  rw [q] at q2
  cases q2.2
end
end
section
open Go.RowKit Go.Maps

theorem add_none (b o j : Nat) : (⟨b, o, none⟩ : Addr).add j = ⟨b, o + j, none⟩ := by
  unfold Addr.add
  split
  · rename_i h
    subst h
    rfl
  · rfl

section
variable {w : World} {B : Nat} {A : Option Addr} {xs : List Value}
/-- 's[k:]' as the walk writes it. -/
theorem Sl.cut (h : Sl w B A xs) {k c : Nat} (hc : k < xs.length → k < c) : Sl w B (if c = k then A else A.map (fun a => a.add k)) (xs.drop k) := by
  intro j u hj
  rw [List.getElem?_drop] at hj
  obtain ⟨b, o, e, hb, hcell⟩ := h _ u hj
  have hk : k < xs.length := by have := (List.getElem?_eq_some_iff.1 hj).1; omega
  have := hc hk
  rw [if_neg (by omega), e]
  exact ⟨b, o + k, by simp [add_none], hb, by rw [Nat.add_assoc]; exact hcell⟩
theorem Sl.nil_of_none (h : Sl w B none xs) : xs = [] := by
  cases xs with
  | nil => rfl
  | cons x t =>
    obtain ⟨_, _, e, _⟩ := h 0 x rfl
    cases e
end

section
variable {α : Type} {f : α → Value} {P : Program} (w : World)
theorem run_append_sl (t ty e : TypeId) (ht : P.underlying t = some (.slice e)) {z0 : Value} {by0 : Nat} (hinfo : (P.info? e).map (fun i => (i.zero, i.size, i.bytes)) = some (some z0, 1, by0)) (hz0 : z0.cells.size = 1) (hby : by0 ≤ 32)
    (base : Nat) (v : Value) (zs : List α) (hown : OwnV f w base e v zs) (B : Nat) (A : Option Addr) (m c : Nat) (ys : List α) (hm : m = ys.length) (hnc : A = none → c = 0) (hs : Sl w B A (ys.map f)) (hone : ∀ y ∈ ys, (f y).oneCell' = true)
    (hlen : zs.length + ys.length ≤ 4398046511104) (hbase : base ≤ w.heap.size) :
    ∃ v' w', (Builtin.append_ #[t, t] ty #[v, .slice A m c]).run P w = .ok v' w' ∧ OwnV f w' base e v' (zs ++ ys) ∧ w.grownBy w' v.ownBlock := by
  obtain ⟨i0, hi, hz1, hz2, hz3⟩ := info_parts hinfo
  subst hm
  cases A with
  | none =>
    have hn := hs.nil_of_none
    have hy : ys = [] := by simpa using hn
    subst hy
    obtain rfl := hnc rfl
    exact ⟨v, w, run_append_owned_none (P := P) (w := w) base t ty e i0 1 ht hi v zs.length _ hown, by simpa using hown, World.grownBy.refl w _⟩
  | some ad =>
    have hcells : ∀ j u, (ys.map f)[j]? = some u → w.cell? (ad.add j) = some u := by
      intro j u hj
      obtain ⟨b, o, e, _, hc⟩ := hs j u hj
      injection e with e
      subst e
      rw [add_none]
      exact hc
    obtain ⟨v', w', hr, h2, h3, _⟩ := run_append_own (P := P) w base t ty e i0 z0 1 by0 ht hi hz1 hz2 hz3 hz0 (by decide) v zs.length _ hown ad ys.length c (ys.map f) (by simp) hcells
      (by intro u hu; simp at hu; obtain ⟨y, hy, rfl⟩ := hu; exact hone y hy) (by unfold maxLen; omega) (by have := Nat.mul_le_mul hlen hby; omega) hbase
    refine ⟨v', w', hr, ?_, h3⟩
    unfold OwnV
    simpa using h2

theorem wp_append_sl {o : Oper} {a : Act} {K : Act → World → Prop} {Q : Exit → Act → World → Prop} (s x : Operand) (t : TypeId)
    (ho : o.op = .call { callee := .builtin .append, args := #[s, x], argTypes := #[t, t] }) (e : TypeId) (ht : P.underlying t = some (.slice e)) {z0 : Value} {by0 : Nat} (hinfo : (P.info? e).map (fun i => (i.zero, i.size, i.bytes)) = some (some z0, 1, by0)) (hz0 : z0.cells.size = 1) (hby : by0 ≤ 32)
    (base : Nat) (v : Value) (zs : List α) (hv : a.eval s = v) (hown : OwnV f w base e v zs) (B : Nat) (A : Option Addr) (m c : Nat) (ys : List α) (hx : a.eval x = .slice A m c) (hm : m = ys.length) (hnc : A = none → c = 0) (hs : Sl w B A (ys.map f)) (hone : ∀ y ∈ ys, (f y).oneCell' = true)
    (hlen : zs.length + ys.length ≤ 4398046511104) (hbase : base ≤ w.heap.size)
    (h : ∀ v' w', OwnV f w' base e v' (zs ++ ys) → w.grownBy w' v.ownBlock → K (a.put o.dst v') w') : o.wp P a w K Q := by
  obtain ⟨v', w', hrun, h2, h3⟩ := run_append_sl w t o.type e ht hinfo hz0 hby base v zs hown B A m c ys hm hnc hs hone hlen hbase
  unfold Oper.wp execOp
  simp only [ho, resolve, invoke, builtin, Sem.run_bind, Sem.run_pure, Result.andThen_ok, List.map_toArray, List.map_cons, List.map_nil, hv, hx, hrun]
  exact h v' w' h2 h3

theorem wpList_append_sl {ops : Array Oper} {rest : List Oper} {o : Oper} {a : Act} {Q : Exit → Act → World → Prop} (hw : Region.wanted o (yielded ops a.tmps) = true) (s x : Operand) (t : TypeId)
    (ho : o.op = .call { callee := .builtin .append, args := #[s, x], argTypes := #[t, t] }) (e : TypeId) (ht : P.underlying t = some (.slice e)) {z0 : Value} {by0 : Nat} (hinfo : (P.info? e).map (fun i => (i.zero, i.size, i.bytes)) = some (some z0, 1, by0)) (hz0 : z0.cells.size = 1) (hby : by0 ≤ 32)
    (base : Nat) (v : Value) (zs : List α) (hv : a.eval s = v) (hown : OwnV f w base e v zs) (B : Nat) (A : Option Addr) (m c : Nat) (ys : List α) (hx : a.eval x = .slice A m c) (hm : m = ys.length) (hnc : A = none → c = 0) (hs : Sl w B A (ys.map f)) (hone : ∀ y ∈ ys, (f y).oneCell' = true)
    (hlen : zs.length + ys.length ≤ 4398046511104) (hbase : base ≤ w.heap.size)
    (h : ∀ v' w', OwnV f w' base e v' (zs ++ ys) → w.grownBy w' v.ownBlock → wpList P ops Q rest (a.put o.dst v') w') : wpList P ops Q (o :: rest) a w :=
  BigFrame.wpList_want hw fun _ hK => wp_append_sl w s x t ho e ht hinfo hz0 hby base v zs hv hown B A m c ys hx hm hnc hs hone hlen hbase fun v' w' h2 h3 => hK _ _ (h v' w' h2 h3)

theorem step_append_sl {ops : Array Oper} {o : Oper} {a : Act} {K : Act → World → Prop} {Q : Exit → Act → World → Prop} {E : Prop} (hw : Region.wanted o (yielded ops a.tmps) = true) (s x : Operand) (t : TypeId)
    (ho : o.op = .call { callee := .builtin .append, args := #[s, x], argTypes := #[t, t] }) (e : TypeId) (ht : P.underlying t = some (.slice e)) {z0 : Value} {by0 : Nat} (hinfo : (P.info? e).map (fun i => (i.zero, i.size, i.bytes)) = some (some z0, 1, by0)) (hz0 : z0.cells.size = 1) (hby : by0 ≤ 32)
    (base : Nat) (v : Value) (zs : List α) (hv : a.eval s = v) (hown : OwnV f w base e v zs) (B : Nat) (A : Option Addr) (m c : Nat) (ys : List α) (hx : a.eval x = .slice A m c) (hm : m = ys.length) (hnc : A = none → c = 0) (hs : Sl w B A (ys.map f)) (hone : ∀ y ∈ ys, (f y).oneCell' = true)
    (hlen : zs.length + ys.length ≤ 4398046511104) (hbase : base ≤ w.heap.size)
    (h : ∀ v' w', OwnV f w' base e v' (zs ++ ys) → w.grownBy w' v.ownBlock → K (a.put o.dst v') w') : if Region.wanted o (yielded ops a.tmps) = true then Oper.wp P o a w K Q else E := by
  rw [if_pos hw]
  exact wp_append_sl w s x t ho e ht hinfo hz0 hby base v zs hv hown B A m c ys hx hm hnc hs hone hlen hbase h
end

/-- 's[k:]' at the operation: the new slice under names of its own. -/
theorem wpList_cut {P : Program} (w : World) {ops : Array Oper} {rest : List Oper} {o : Oper} {a : Act} {Q : Exit → Act → World → Prop} (hw : Region.wanted o (yielded ops a.tmps) = true) (x lo : Operand) (t : TypeId)
    (ho : o.op = .slice t x (some lo) none none) (e : TypeId) (ht : P.underlying t = some (.slice e)) (hel : P.elem t = e) (hsz : (sizeOf e).run P w = .ok 1 w) (A : Option Addr) (n c : Nat) (k : Nat) (hx : a.eval x = .slice A n c) (hlo : a.eval lo = .int .i64 k) (hk : k ≤ n) (B : Nat) (xs : List Value) (hs : Sl w B A xs) (hkc : k < xs.length → k < c)
    (h : ∀ A' c', Sl w B A' (xs.drop k) → c' ≤ c → c ≤ c' + k → (A = none → A' = none) → (A' = none → A = none) → wpList P ops Q rest (a.put o.dst (.slice A' (n - k) c')) w) : wpList P ops Q (o :: rest) a w := by
  refine BigFrame.wpList_want hw fun K hK => ?_
  have hrun := run_slice_l (P := P) w t A n c (by rw [hel]; exact ht) .i64 (k : Int) (by omega) (by omega)
  rw [hel, hsz] at hrun
  simp only [Result.andThen, sliced, Int.toNat_natCast, Nat.mul_one] at hrun
  unfold Oper.wp execOp
  simp [ho, hx, hlo, run_sliceAt_slice, hel, ht, hrun, Result.andThen]
  refine hK _ _ (h _ _ (hs.cut hkc) (by omega) (by omega) ?_ ?_)
  · rintro rfl
    split <;> rfl
  · intro q
    split at q
    · exact q
    · cases A with
      | none => rfl
      | some a => cases q

/-- a row that the call laid whole. -/
theorem OwnV.lit {α : Type} {f : α → Value} (w : World) (base : Nat) (e : TypeId) (zs : List α) {n : Nat} (hn : n = w.heap.size) (hb : base ≤ n) (hm : zs.length ≤ 4398046511104) (cs : Array Value) (hcs : cs = (zs.map f).toArray) :
    OwnV f (w.alloc (.cells cs e)) base e (.slice (some ⟨n, 0, none⟩) zs.length zs.length) zs := by
  subst hn hcs
  have := World.ownsRow_lit (base := base) (e := e) (size := 1) w (zs.map f).toArray zs.length hb (by unfold maxLen; omega) (by simp)
  unfold OwnV
  simpa using this
end
section
open Go.RowKit Go.Maps

section
variable {α : Type} {cs : α → List Value} {s : Nat}
theorem flat_len (hs : ∀ a, (cs a).length = s) (xs : List α) : (xs.flatMap cs).length = xs.length * s := by
  induction xs with
  | nil => simp
  | cons x xs ih =>
    rw [List.flatMap_cons, List.length_append, ih, hs, List.length_cons, Nat.add_mul]
    omega
theorem flat_at (hs : ∀ a, (cs a).length = s) : ∀ {xs : List α} {i : Nat} {a : α}, xs[i]? = some a → ∀ {j : Nat} {u : Value}, (cs a)[j]? = some u → (xs.flatMap cs)[i * s + j]? = some u
  | [], i, a, h, _, _, _ => by simp at h
  | x :: xs, 0, a, h, j, u, hj => by
    simp only [List.getElem?_cons_zero, Option.some.injEq] at h
    subst h
    rw [List.flatMap_cons, Nat.zero_mul, Nat.zero_add, List.getElem?_append_left (List.getElem?_eq_some_iff.1 hj).1]
    exact hj
  | x :: xs, i + 1, a, h, j, u, hj => by
    have ih := flat_at hs (xs := xs) (i := i) (a := a) (by simpa using h) hj
    rw [List.flatMap_cons, List.getElem?_append_right (by rw [hs, Nat.add_mul]; omega), hs]
    have e : (i + 1) * s + j - s = i * s + j := by rw [Nat.add_mul]; omega
    rw [e]
    exact ih

/-- the records xs lie at A, below B. -/
def RecsAt (cs : α → List Value) (w : World) (B : Nat) (A : Option Addr) (xs : List α) : Prop := Sl w B A (xs.flatMap cs)
/-- v owns the records xs. -/
def OwnR (cs : α → List Value) (s : Nat) (w : World) (base : Nat) (e : TypeId) (v : Value) (xs : List α) : Prop := w.ownsRow base e s v xs.length (xs.flatMap cs)

variable {w w' : World} {B B' base : Nat} {A : Option Addr} {xs : List α} {e : TypeId} {v : Value}
theorem RecsAt.at (hs : ∀ a, (cs a).length = s) (h : RecsAt cs w B A xs) {i : Nat} {a : α} (hi : xs[i]? = some a) (h0 : 0 < s) : ∃ b o, A = some ⟨b, o, none⟩ ∧ b < B ∧ ∀ (j : Nat) (u : Value), (cs a)[j]? = some u → w.cell? ⟨b, o + i * s + j, none⟩ = some u := by
  obtain ⟨u0, hu0⟩ : ∃ u, (cs a)[0]? = some u := ⟨(cs a)[0]'(by rw [hs]; exact h0), by simp⟩
  obtain ⟨b, o, e, hb, _⟩ := h _ _ (flat_at hs hi hu0)
  refine ⟨b, o, e, hb, fun j u hj => ?_⟩
  obtain ⟨b', o', e', _, hc⟩ := h _ _ (flat_at hs hi hj)
  rw [e] at e'
  injection e' with e'
  injection e' with e1 e2
  subst e1 e2
  rw [Nat.add_assoc]
  exact hc
theorem RecsAt.below (h : RecsAt cs w B A xs) (hb : Below B w w') : RecsAt cs w' B A xs := Sl.below h hb
theorem RecsAt.more (h : RecsAt cs w B A xs) (hB : B ≤ B') : RecsAt cs w B' A xs := Sl.more h hB
theorem RecsAt.alloc (h : RecsAt cs w B A xs) (hB : B ≤ w.heap.size) (o : Obj) : RecsAt cs (w.alloc o) B A xs := Sl.alloc h hB o
theorem RecsAt.drewN (h : RecsAt cs w B A xs) (k : Nat) : RecsAt cs (w.drewN k) B A xs := h
theorem RecsAt.lit (w : World) (xs : List α) (t : TypeId) {n : Nat} (hn : n = w.heap.size) (vs : Array Value) (hv : vs = (xs.flatMap cs).toArray) : RecsAt cs (w.alloc (.cells vs t)) (w.alloc (.cells vs t)).heap.size (some ⟨n, 0, none⟩) xs := by
  subst hv
  exact Sl.lit w _ t hn
theorem RecsAt.empty : RecsAt cs w B A [] := Sl.empty

theorem OwnR.nil (w : World) (base : Nat) (e : TypeId) : OwnR cs s w base e (.slice none 0 0) [] := World.ownsRow_nil w base e s
theorem OwnR.sl (h : OwnR cs s w base e v xs) : ∃ A c, v = .slice A xs.length c ∧ RecsAt cs w w.heap.size A xs := by
  have h' := h
  obtain ⟨hl, h2⟩ := h
  rcases h2 with ⟨rfl, hn⟩ | ⟨g, cap, cur, rfl, hb, hh, hn, hm, hs, ht⟩
  · have : xs = [] := List.eq_nil_of_length_eq_zero hn
    subst this
    exact ⟨_, _, rfl, RecsAt.empty⟩
  · refine ⟨_, _, rfl, fun j u hj => ⟨g, 0, rfl, (Array.getElem?_eq_some_iff.1 hh).1, ?_⟩⟩
    have hj2 : j < xs.length * s := by rw [← hl]; exact (List.getElem?_eq_some_iff.1 hj).1
    have := World.ownsRow.cellAt h' j hj2
    simpa [hj] using this
theorem OwnR.caps {m c : Nat} (h : OwnR cs s w base e (.slice A m c) xs) : m = xs.length ∧ xs.length ≤ c ∧ c ≤ 9223372036854775807 ∧ (A = none → c = 0) := by
  rcases h.2 with ⟨e1, e2⟩ | ⟨g4, c4, cur4, e1, _, _, e2, e3, _⟩
  · injection e1 with e3 e4 e5
    subst e3 e4 e5
    exact ⟨by omega, by omega, by omega, fun _ => rfl⟩
  · injection e1 with e5 e6 e7
    subst e5 e6 e7
    exact ⟨rfl, e2, by unfold maxLen at e3; omega, fun h => by cases h⟩
theorem OwnR.alloc (h : OwnR cs s w base e v xs) (o : Obj) : OwnR cs s (w.alloc o) base e v xs := World.ownsRow.alloc h o
theorem OwnR.drewN (h : OwnR cs s w base e v xs) (k : Nat) : OwnR cs s (w.drewN k) base e v xs := h
theorem OwnR.ge_base (h : OwnR cs s w base e v xs) : ∀ k, v.ownBlock = some k → base ≤ k := fun k hk => (World.ownsRow.lt h k hk).1
theorem OwnR.lt_size (h : OwnR cs s w base e v xs) : ∀ k, v.ownBlock = some k → k < w.heap.size := fun k hk => (World.ownsRow.lt h k hk).2
theorem OwnR.kept_map (h : OwnR cs s w base e v xs) {b : Nat} (hg : w.grownBy w' (some b)) (hb : b < base) : OwnR cs s w' base e v xs := own_kept_map h hg hb
theorem OwnR.kept_new (h : OwnR cs s w base e v xs) (hg : Below w.heap.size w w') : OwnR cs s w' base e v xs := World.ownsRow.kept h (row := none) ⟨hg.os, hg.tape, hg.output, hg.size, fun k hk _ => hg.block k hk⟩ (by
  cases v.ownBlock with
  | none => exact .inl rfl
  | some k => exact .inr (by simp))
theorem OwnR.kept_far (h : OwnR cs s w base e v xs) {B : Nat} (hv : ∀ k, v.ownBlock = some k → k < B) {row : Option Nat} (hg : w.grownBy w' row) (hr : ∀ k, row = some k → B ≤ k) : OwnR cs s w' base e v xs := by
  refine World.ownsRow.kept h hg ?_
  cases hk : v.ownBlock with
  | none => exact .inl rfl
  | some k =>
    refine .inr fun e => ?_
    have h1 := hv k hk
    have h2 := hr k e.symm
    omega
theorem OwnR.base_le {base' : Nat} (h : OwnR cs s w base e v xs) (hb : base' ≤ base) : OwnR cs s w base' e v xs := by
  obtain ⟨hl, h2⟩ := h
  refine ⟨hl, ?_⟩
  rcases h2 with h2 | ⟨g, cap, cur, hv, hg, r⟩
  · exact .inl h2
  · exact .inr ⟨g, cap, cur, hv, Nat.le_trans hb hg, r⟩
theorem OwnR.setCell_other (h : OwnR cs s w base e v xs) {a : Addr} (ha : v.ownBlock ≠ some a.block) (u : Value) : OwnR cs s (w.setCell a u) base e v xs := ownsRow_setCell_other h ha u

/-- 'v = append(v, x)' at the operation, x a struct. -/
theorem wpList_append_rec {P : Program} (w : World) {ops : Array Oper} {rest : List Oper} {o : Oper} {a : Act} {Q : Exit → Act → World → Prop} (hgd : o.guard = none) (sl x : Operand) (t : TypeId)
    (ho : o.op = .call { callee := .builtin .append, args := #[sl, x], argTypes := #[t, t] })
    (base : Nat) (e : TypeId) (ht : P.underlying t = some (.slice e)) {z0 : Value} {by0 : Nat} (hinfo : (P.info? e).map (fun i => (i.zero, i.size, i.bytes)) = some (some z0, s, by0)) (hz0 : z0.cells.size = s) (h0 : 0 < s) (hby : by0 ≤ 256)
    (hs : ∀ a, (cs a).length = s) (v : Value) (xs : List α) (w0 : World) (z : α) (hone : ∀ u ∈ cs z, u.oneCell' = true) (vs : Array Value) (hvs : vs = (cs z).toArray) (hw : w = w0.alloc (.cells vs e)) (hv : a.eval sl = v) (hown : OwnR cs s w0 base e v xs)
    (nb : Nat) (hx : a.eval x = .slice (some ⟨nb, 0, none⟩) 1 1) (hnb : nb = w0.heap.size) (hlen : xs.length + 1 ≤ 549755813888) (hbase : base ≤ w0.heap.size)
    (h : ∀ v' w', OwnR cs s w' base e v' (xs ++ [z]) → w0.grownBy w' v.ownBlock → wpList P ops Q rest (a.put o.dst v') w') :
    wpList P ops Q (o :: rest) a w := by
  obtain ⟨i0, hi, hz1, hz2, hz3⟩ := info_parts hinfo
  subst hw hvs hnb
  have hcell : ∀ j u, (cs z)[j]? = some u → (w0.alloc (.cells (cs z).toArray e)).cell? ((⟨w0.heap.size, 0, none⟩ : Addr).add j) = some u := by
    intro j u hj
    rw [add_none, Nat.zero_add, World.cell?_alloc_at (hn := rfl)]
    simpa using hj
  refine wpList_append_own _ hgd sl x t ho base e i0 z0 s by0 ht hi hz1 hz2 hz3 hz0 h0 v xs.length _ hv (World.ownsRow.alloc hown _) ⟨w0.heap.size, 0, none⟩ 1 1 (cs z) hx (by rw [hs, Nat.one_mul]) hcell
    hone (by unfold maxLen; omega) ?_ (by simp; omega) ?_
  · have := Nat.mul_le_mul hlen hby
    omega
  intro v' w' h1 h2 _
  refine h v' w' ?_ ?_
  · unfold OwnR
    rw [List.length_append, List.length_singleton, List.flatMap_append]
    simpa using h1
  · exact (World.grownBy_alloc w0 _ _).trans h2
end
end
end Go.Proofs.YtimijjhdgihobaaDoor
