/-
  Two arrays of rows of integers that a call makes itself (the edges that leave and enter each node), and one append to one row.
-/
import Derived.Test.YtppbmnlneoinhaaDoorEdges
import Derived.Deep.AppendLies
namespace Go.Proofs.YtppbmnlneoinhaaDoor
open Go.RowKit Go.Maps

theorem int_info35 : (Tryd.prog.info? 3).map (fun i => (i.zero, i.size, i.bytes)) = some (some (.int .i64 0), 1, 8) := by kernel_rfl

/-- the numbers of the edges among the first k whose end f is j. -/
def idx (f : EdgeT → Int) (E : List EdgeT) (k : Nat) (j : Nat) : List Int := ((E.take k).zipIdx.filter (fun p => f p.1 == (j : Int))).map (fun p => (p.2 : Int))
theorem idx_zero (f : EdgeT → Int) (E : List EdgeT) (j : Nat) : idx f E 0 j = [] := rfl
theorem idx_succ {f : EdgeT → Int} {E : List EdgeT} {k : Nat} {e : EdgeT} (h : E[k]? = some e) (j : Nat) : idx f E (k + 1) j = idx f E k j ++ (if f e = (j : Int) then [(k : Int)] else []) := by
  have hk := (List.getElem?_eq_some_iff.1 h).1
  unfold idx
  have e1 : E.take (k + 1) = E.take k ++ [e] := by
    rw [List.take_succ_eq_append_getElem hk, (List.getElem?_eq_some_iff.1 h).2]
  rw [e1, List.zipIdx_append, List.filter_append, List.map_append]
  congr 1
  have hl : (E.take k).length = k := by rw [List.length_take]; omega
  rw [hl]
  by_cases q : f e = (j : Int)
  · rw [if_pos q]
    simp [q]
  · rw [if_neg q]
    simp [q]
theorem idx_len (f : EdgeT → Int) (E : List EdgeT) (k j : Nat) : (idx f E k j).length ≤ k := by
  unfold idx
  rw [List.length_map]
  refine Nat.le_trans (List.length_filter_le _ _) ?_
  simp
  omega

def updF {α : Type} (F : Bool → Nat → α) (s : Bool) (j : Nat) (v : α) : Bool → Nat → α := fun s' j' => if s' = s ∧ j' = j then v else F s' j'
theorem updF_same {α : Type} (F : Bool → Nat → α) (s : Bool) (j : Nat) (v : α) : updF F s j v s j = v := by simp [updF]
theorem updF_other {α : Type} {F : Bool → Nat → α} {s s' : Bool} {j j' : Nat} {v : α} (h : ¬ (s' = s ∧ j' = j)) : updF F s j v s' j' = F s' j' := by simp only [updF, if_neg h]

structure RowsAt (w : World) (base : Nat) (bl : Bool → Nat) (n : Nat) (F : Bool → Nat → Value) (P : Bool → Nat → List Int) : Prop where
  cell : ∀ s j, j < n → w.cell? ⟨bl s, j, none⟩ = some (F s j)
  froz : ∀ s j, j < n → w.frozen? ⟨bl s, j, none⟩ = false
  own : ∀ s j, j < n → OwnI w base 3 (F s j) (P s j)
  dist : ∀ s j s' j', j < n → j' < n → ¬ (s' = s ∧ j' = j) → ∀ g, (F s j).ownBlock = some g → (F s' j').ownBlock ≠ some g
  low : ∀ s, bl s < base
  two : bl false ≠ bl true
  room : base ≤ w.heap.size
section
variable {w w' : World} {base : Nat} {bl : Bool → Nat} {n : Nat} {F : Bool → Nat → Value} {P : Bool → Nat → List Int}
theorem RowsAt.kept (h : RowsAt w base bl n F P) {row : Option Nat} (hg : w.grownBy w' row) (hr : ∀ k, row = some k → base ≤ k) (hn : ∀ s j k, j < n → row = some k → (F s j).ownBlock ≠ some k) : RowsAt w' base bl n F P := by
  have hb : Below base w w' := (Below.refl _ _).grown hg h.room hr
  refine ⟨fun s j hj => (hb.cell (p := ⟨bl s, j, none⟩) (h.low s)).trans (h.cell s j hj), fun s j hj => (hb.frozen (p := ⟨bl s, j, none⟩) (h.low s)).trans (h.froz s j hj), fun s j hj => ?_, h.dist, h.low, h.two, Nat.le_trans h.room hb.size⟩
  refine World.ownsRow.kept (h.own s j hj) hg ?_
  cases hk : (F s j).ownBlock with
  | none => exact .inl rfl
  | some k =>
    refine .inr fun e => ?_
    exact hn s j k hj e.symm hk
theorem RowsAt.alloc (h : RowsAt w base bl n F P) (o : Obj) : RowsAt (w.alloc o) base bl n F P := h.kept (World.grownBy_alloc w o none) (fun _ e => by cases e) (fun _ _ _ _ e => by cases e)
theorem RowsAt.drew (h : RowsAt w base bl n F P) : RowsAt w.drew base bl n F P := ⟨h.cell, h.froz, h.own, h.dist, h.low, h.two, h.room⟩
theorem RowsAt.setFresh (h : RowsAt w base bl n F P) {a : Addr} (ha : ∀ s, bl s ≠ a.block) (hF : ∀ s j, j < n → (F s j).ownBlock ≠ some a.block) (u : Value) : RowsAt (w.setCell a u) base bl n F P := by
  refine ⟨fun s j hj => ?_, fun s j hj => ?_, fun s j hj => (h.own s j hj).setCell_other (hF s j hj) u, h.dist, h.low, h.two, by simpa using h.room⟩
  · exact (World.cell?_setCell_other w a ⟨bl s, j, none⟩ u (fun q => ha s (by rw [q]))).trans (h.cell s j hj)
  · rw [World.frozen?_setCell]
    exact h.froz s j hj

/-- one append to one row, and the store of the new slice. -/
theorem RowsAt.append (h : RowsAt w base bl n F P) {s : Bool} {j : Nat} (hj : j < n) {z : Int} {g cap m : Nat} (hown : OwnI w' base 3 (.slice (some ⟨g, 0, none⟩) m cap) (P s j ++ [z])) (hg : w.grownBy w' (F s j).ownBlock) (hat : (F s j).ownBlock = some g ∨ w.heap.size ≤ g) :
    w'.cell? ⟨bl s, j, none⟩ = some (F s j) ∧ w'.frozen? ⟨bl s, j, none⟩ = false ∧ Below base w w' ∧
      RowsAt (w'.setCell ⟨bl s, j, none⟩ (.slice (some ⟨g, 0, none⟩) m cap)) base bl n (updF F s j (.slice (some ⟨g, 0, none⟩) m cap)) (updF P s j (P s j ++ [z])) := by
  have hb : Below base w w' := (Below.refl _ _).grown hg h.room (fun k e => (h.own s j hj).ge_base k e)
  have c1 : ∀ s j, j < n → w'.cell? ⟨bl s, j, none⟩ = some (F s j) := fun s j hj => (hb.cell (p := ⟨bl s, j, none⟩) (h.low s)).trans (h.cell s j hj)
  have f1 : ∀ s j, j < n → w'.frozen? ⟨bl s, j, none⟩ = false := fun s j hj => (hb.frozen (p := ⟨bl s, j, none⟩) (h.low s)).trans (h.froz s j hj)
  have hnew : ∀ s' j', j' < n → ¬ (s' = s ∧ j' = j) → (F s' j').ownBlock ≠ some g := by
    intro s' j' hj' hne q
    rcases hat with hat | hat
    · exact h.dist s j s' j' hj hj' hne g hat q
    · have := (h.own s' j' hj').lt_size g q
      omega
  refine ⟨c1 s j hj, f1 s j hj, hb, ⟨fun s' j' hj' => ?_, fun s' j' hj' => ?_, fun s' j' hj' => ?_, fun a i a' i' hi hi' hne g' hg' => ?_, h.low, h.two, by have := hb.size; have := h.room; simp; omega⟩⟩
  · by_cases q : s' = s ∧ j' = j
    · obtain ⟨rfl, rfl⟩ := q
      rw [updF_same]
      exact World.cell?_setCell_same' _ _ _ (by rw [c1 _ _ hj]; rfl)
    · rw [updF_other q]
      refine (World.cell?_setCell_other w' _ ⟨bl s', j', none⟩ _ ?_).trans (c1 s' j' hj')
      intro e
      injection e with e1 e2
      apply q
      refine ⟨?_, e2.symm⟩
      cases s <;> cases s' <;> first | rfl | exact absurd e1 h.two | exact absurd e1.symm h.two
  · rw [World.frozen?_setCell]
    exact f1 s' j' hj'
  · by_cases q : s' = s ∧ j' = j
    · obtain ⟨rfl, rfl⟩ := q
      rw [updF_same, updF_same]
      exact hown.setCell_below (h.low _) _
    · rw [updF_other q, updF_other q]
      refine OwnV.setCell_below ?_ (h.low _) _
      refine World.ownsRow.kept (h.own s' j' hj') hg ?_
      cases hk : (F s' j').ownBlock with
      | none => exact .inl rfl
      | some k =>
        refine .inr fun e => ?_
        exact h.dist s j s' j' hj hj' q k e.symm hk
  · by_cases q : a = s ∧ i = j
    · obtain ⟨rfl, rfl⟩ := q
      rw [updF_same] at hg'
      have e : g = g' := by simpa [Value.ownBlock] using hg'
      subst e
      rw [updF_other hne]
      exact hnew a' i' hi' hne
    · rw [updF_other q] at hg'
      by_cases q' : a' = s ∧ i' = j
      · obtain ⟨rfl, rfl⟩ := q'
        rw [updF_same]
        intro e
        have e : g = g' := by simpa [Value.ownBlock] using e
        subst e
        exact hnew a i hi q hg'
      · rw [updF_other q']
        exact h.dist a i a' i' hi hi' hne g' hg'
end

/-- at a step of a drawn region: 'append(row, z)', the new slice written out. -/
theorem step_append_int {P : Program} {ops : Array Oper} {o : Oper} {a : Act} {K : Act → World → Prop} {Q : Exit → Act → World → Prop} {X : Prop} (w : World) (hgd : o.guard = none) (s x : Operand) (t : TypeId)
    (ho : o.op = .call { callee := .builtin .append, args := #[s, x], argTypes := #[t, t] })
    (base : Nat) (e : TypeId) (ht : P.underlying t = some (.slice e)) (hinfo : (P.info? e).map (fun i => (i.zero, i.size, i.bytes)) = some (some (.int .i64 0), 1, 8))
    (v : Value) (zs : List Int) (w0 : World) (z : Int) (hw : w = w0.alloc (.cells #[.int .i64 z] e)) (hs : a.eval s = v) (hown : OwnI w0 base e v zs) (N : Nat) (hx : a.eval x = .slice (some ⟨N, 0, none⟩) 1 1) (hN : N = w0.heap.size) (hlen : zs.length + 1 ≤ 4398046511104) (hbase : base ≤ w0.heap.size)
    (h : ∀ g cap w', OwnI w' base e (.slice (some ⟨g, 0, none⟩) (zs.length + 1) cap) (zs ++ [z]) → w0.grownBy w' v.ownBlock → (v.ownBlock = some g ∨ w0.heap.size ≤ g) → K (a.put o.dst (.slice (some ⟨g, 0, none⟩) (zs.length + 1) cap)) w') :
    if Region.wanted o (yielded ops a.tmps) = true then Oper.wp P o a w K Q else X := by
  obtain ⟨i0, hi, hz1, hz2, hz3⟩ := info_parts hinfo
  subst hw hN
  refine step_append_lies _ hgd s x t ho base e i0 (.int .i64 0) 1 8 ht hi hz1 hz2 hz3 rfl (by decide) v zs.length (zs.map (Value.int .i64)) hs (World.ownsRow.alloc hown _) ⟨w0.heap.size, 0, none⟩ 1 1 [.int .i64 z] hx rfl (cell_one_new _ _ _) (by intro u hu; simp at hu; subst hu; rfl) (by decide) (by unfold maxLen; omega) (by omega) (by simp; omega) _ rfl ?_
  intro g cap w' h1 h2 h3 _
  refine h g cap w' ?_ ((World.grownBy_alloc w0 _ _).trans h2) ?_
  · unfold OwnI OwnV
    simpa using h1
  · rcases h3 with h3 | h3
    · exact .inl h3
    · right
      rw [h3]
      simp
end Go.Proofs.YtppbmnlneoinhaaDoor
