/-
  The protocol under way in protocol.Parse: where it lies; what an append of a question, of an answer to the last question does.
-/
import Derived.Test.YtbbklideciappaaGreatDoorPqM
namespace Go.Proofs.YtbbklideciappaaGreatDoor
open Go.RowKit Go.Maps

def ansSl (q : Ques) : Value := .slice q.aA q.ans.length q.ac
/-- the protocol under way lies in block pb; its rows were made behind it. -/
structure PSt (pb : Nat) (p : Prot) (W : World) : Prop where
  cc : W.heap[pb]? = some (.cells p.cells.toArray 24 (0, 0))
  qs : OwnR cellsQ 2 W (pb + 1) 43 (.slice p.qA p.qs.length p.qc) p.qs
  an : ∀ q ∈ p.qs, OwnR cellsA 4 W (pb + 1) 45 (ansSl q) q.ans
  ds : ∀ (i j : Nat) (q r : Ques), p.qs[i]? = some q → p.qs[j]? = some r → i ≠ j → ∀ g, (ansSl q).ownBlock = some g → (ansSl r).ownBlock ≠ some g
theorem rows_apart {W : World} {base base' : Nat} {e e' : TypeId} {s s' n n' : Nat} {v v' : Value} {xs xs' : List Value} (h : W.ownsRow base e s v n xs) (h' : W.ownsRow base' e' s' v' n' xs') (hne : e ≠ e') {k : Nat} (hk : v.ownBlock = some k) : v'.ownBlock ≠ some k := by
  intro hk'
  obtain ⟨_, h2⟩ := h
  obtain ⟨_, h3⟩ := h'
  rcases h2 with ⟨rfl, _⟩ | ⟨g, cap, cur, rfl, _, hh, _⟩
  · cases hk
  · rcases h3 with ⟨rfl, _⟩ | ⟨g', cap', cur', rfl, _, hh', _⟩
    · cases hk'
    · cases hk
      cases hk'
      rw [hh] at hh'
      simp at hh'
      exact hne hh'.2
theorem own_n {w : World} {base : Nat} {e : TypeId} {s n m cp : Nat} {A : Option Addr} {xs : List Value} (h : w.ownsRow base e s (.slice A n cp) m xs) : n = m := by
  rcases h.2 with ⟨e1, e2⟩ | ⟨g, cap, cur, e1, _⟩
  · injection e1 with _ e3 _
    omega
  · injection e1
section
variable {pb : Nat} {p : Prot} {W W' W1 : World}
theorem PSt.lt (h : PSt pb p W) : pb < W.heap.size := (Array.getElem?_eq_some_iff.1 h.cc).1
theorem PSt.next (h : PSt pb p W) (hb : Below W.heap.size W W') : PSt pb p W' :=
  ⟨(hb.block pb h.lt).trans h.cc, h.qs.kept_new hb, fun q hq => (h.an q hq).kept_new hb, h.ds⟩
theorem PSt.cell (h : PSt pb p W) {j : Nat} {u : Value} (hj : p.cells[j]? = some u) : W.cell? ⟨pb, j, none⟩ = some u ∧ W.frozen? ⟨pb, j, none⟩ = false :=
  ⟨(cell_of_row W pb j _ _ _ h.cc).trans (by simpa using hj), frozen_of_row W pb j _ _ h.cc⟩
theorem PSt.drewN (h : PSt pb p W) (k : Nat) : PSt pb p (W.drewN k) := ⟨h.cc, h.qs, h.an, h.ds⟩
theorem PSt.at_ (h : PSt pb p W) : ProtAt W W.heap.size p := by
  obtain ⟨A, c, e, hr⟩ := h.qs.sl
  injection e with e1 e2 e3
  subst e1
  refine ⟨hr, fun q hq => ?_⟩
  obtain ⟨A, c, e, hr⟩ := (h.an q hq).sl
  injection e with e1 e2 e3
  subst e1
  exact hr
theorem PSt.put_q (h : PSt pb p W) {A : Option Addr} {n cp : Nat} {t : ByteArray} (hown : OwnR cellsQ 2 W1 (pb + 1) 43 (.slice A n cp) (p.qs ++ [⟨t, none, [], 0⟩])) (hg : W.grownBy W1 (Value.slice p.qA p.qs.length p.qc).ownBlock) :
    W1.cell? ⟨pb, 2, none⟩ = some (.slice p.qA p.qs.length p.qc) ∧ W1.frozen? ⟨pb, 2, none⟩ = false ∧ PSt pb { p with qA := A, qc := cp, qs := p.qs ++ [⟨t, none, [], 0⟩] } (W1.setCell ⟨pb, 2, none⟩ (.slice A n cp)) ∧ Below pb W (W1.setCell ⟨pb, 2, none⟩ (.slice A n cp)) := by
  have hn : n = (p.qs ++ [(⟨t, none, [], 0⟩ : Ques)]).length := own_n hown
  subst hn
  have ho : Only (fun b => (Value.slice p.qA p.qs.length p.qc).ownBlock = some b) W W1 := Only.of_grown hg (fun j e => e)
  have hge : ∀ k, (Value.slice p.qA p.qs.length p.qc).ownBlock = some k → pb + 1 ≤ k := fun k e => (World.ownsRow.lt h.qs k e).1
  have c1 := (ho.block pb h.lt (fun e => by have := hge _ e; omega)).trans h.cc
  have hcell : W1.cell? ⟨pb, 2, none⟩ = some (.slice p.qA p.qs.length p.qc) := (cell_of_row W1 pb 2 _ _ _ c1).trans rfl
  have ho2 : Only (fun b => b = pb ∨ (Value.slice p.qA p.qs.length p.qc).ownBlock = some b) W (W1.setCell ⟨pb, 2, none⟩ (.slice A (p.qs ++ [(⟨t, none, [], 0⟩ : Ques)]).length cp)) := (ho.mono fun j _ e => .inr e).setCell (a := ⟨pb, 2, none⟩) (fun _ => .inl rfl) _
  have hk : ∀ {e : TypeId} {s n : Nat} {v : Value} {xs : List Value}, e ≠ 43 → W.ownsRow (pb + 1) e s v n xs → (W1.setCell ⟨pb, 2, none⟩ (.slice A (p.qs ++ [(⟨t, none, [], 0⟩ : Ques)]).length cp)).ownsRow (pb + 1) e s v n xs := fun hne hr => ho2.row hr (fun k e q => by
    rcases q with q | q
    · have := (World.ownsRow.lt hr k e).1
      omega
    · exact rows_apart hr h.qs hne e q)
  refine ⟨hcell, frozen_of_row W1 pb 2 _ _ c1, ⟨?_, ?_, ?_, ?_⟩, ho2.below (Nat.le_of_lt h.lt) (fun j e => by
    rcases e with e | e
    · omega
    · have := hge _ e
      omega)⟩
  · rw [heap_setCell_same W1 pb 2 _ _ _ c1]
    simp [Prot.cells]
  · exact ownsRow_setCell_other hown (fun e => by exact Nat.not_succ_le_self _ (World.ownsRow.lt hown _ e).1) _
  · intro q hq
    rcases List.mem_append.1 hq with hq | hq
    · exact hk (by decide) (h.an q hq)
    · rw [List.mem_singleton.1 hq]
      exact OwnR.nil _ _ _
  · intro i j q r hi hj hne g hg1 hg2
    have sp : ∀ {i : Nat} {q : Ques} {g : Nat}, (p.qs ++ [(⟨t, none, [], 0⟩ : Ques)])[i]? = some q → (ansSl q).ownBlock = some g → p.qs[i]? = some q := by
      intro i q g hi hg1
      by_cases hl : i < p.qs.length
      · rwa [List.getElem?_append_left hl] at hi
      · rw [List.getElem?_append_right (by omega)] at hi
        have hz : i - p.qs.length = 0 := by
          have := (List.getElem?_eq_some_iff.1 hi).1
          simp at this
          omega
        rw [hz] at hi
        simp at hi
        subst hi
        cases hg1
    exact h.ds i j q r (sp hi hg1) (sp hj hg2) hne g hg1 hg2
theorem flat_set {α : Type} {cs : α → List Value} {s : Nat} (hs : ∀ a, (cs a).length = s) {xs : List α} {x y : α} {j : Nat} {u : Value} (h : (cs x).set j u = cs y) : ((xs ++ [x]).flatMap cs).set (xs.length * s + j) u = (xs ++ [y]).flatMap cs := by
  rw [List.flatMap_append, List.flatMap_append, List.set_append_right _ _ (by rw [flat_len hs]; omega), flat_len hs]
  simp [h]
theorem PSt.put_a (h : PSt pb p W) {init : List Ques} {q : Ques} (hq : p.qs = init ++ [q]) {g cap : Nat} {a : Ans} (hown : OwnR cellsA 4 W1 (pb + 1) 45 (.slice (some ⟨g, 0, none⟩) (q.ans.length + 1) cap) (q.ans ++ [a])) (hg : W.grownBy W1 (ansSl q).ownBlock) (hat : (ansSl q).ownBlock = some g ∨ W.heap.size ≤ g) :
    ∃ qb, p.qA = some ⟨qb, 0, none⟩ ∧ W1.cell? ⟨qb, init.length * 2 + 1, none⟩ = some (ansSl q) ∧ W1.frozen? ⟨qb, init.length * 2 + 1, none⟩ = false ∧
      PSt pb { p with qs := init ++ [⟨q.text, some ⟨g, 0, none⟩, q.ans ++ [a], cap⟩] } (W1.setCell ⟨qb, init.length * 2 + 1, none⟩ (.slice (some ⟨g, 0, none⟩) (q.ans.length + 1) cap)) ∧ Below pb W (W1.setCell ⟨qb, init.length * 2 + 1, none⟩ (.slice (some ⟨g, 0, none⟩) (q.ans.length + 1) cap)) := by
  have hqm : q ∈ p.qs := by rw [hq]; simp
  have hqi : p.qs[init.length]? = some q := by rw [hq]; simp
  have ho : Only (fun b => (ansSl q).ownBlock = some b) W W1 := Only.of_grown hg (fun j e => e)
  have hge : ∀ k, (ansSl q).ownBlock = some k → pb + 1 ≤ k := fun k e => (World.ownsRow.lt (h.an q hqm) k e).1
  have hQ : OwnR cellsQ 2 W1 (pb + 1) 43 (.slice p.qA p.qs.length p.qc) p.qs := ho.row h.qs (fun k e q' => rows_apart h.qs (h.an q hqm) (by decide) e q')
  obtain ⟨qb, hqA, hqb1, hqb2⟩ : ∃ qb, p.qA = some ⟨qb, 0, none⟩ ∧ pb + 1 ≤ qb ∧ qb < W.heap.size := by
    rcases h.qs.2 with ⟨e1, e2⟩ | ⟨qb, cap', cur, e1, hb, hh, _⟩
    · rw [hq] at e2
      simp at e2
    · injection e1 with e1 _ _
      exact ⟨qb, e1, hb, (Array.getElem?_eq_some_iff.1 hh).1⟩
  have hQ2 : W1.ownsRow (pb + 1) 43 2 (.slice (some ⟨qb, 0, none⟩) p.qs.length p.qc) p.qs.length (p.qs.flatMap cellsQ) := by rw [← hqA]; exact hQ
  have hcl : W1.cell? ⟨qb, init.length * 2 + 1, none⟩ = some (ansSl q) := by
    have h1 : (p.qs.flatMap cellsQ)[init.length * 2 + 1]? = some (ansSl q) := flat_at cellsQ_len hqi (j := 1) rfl
    rw [World.ownsRow.cellAt hQ2 _ (by rw [hq]; simp; omega)]
    exact h1
  have hfr : W1.frozen? ⟨qb, init.length * 2 + 1, none⟩ = false := World.ownsRow.frozenAt hQ2 _
  have hst := (World.ownsRow.stored hQ2 (init.length * 2 + 1) (.slice (some ⟨g, 0, none⟩) (q.ans.length + 1) cap)).1
  have hqp : (ansSl q).ownBlock ≠ some pb := fun e => by have := hge _ e; omega
  have c1 := (ho.block pb h.lt hqp).trans h.cc
  have ho2 : Only (fun b => b = qb ∨ (ansSl q).ownBlock = some b) W (W1.setCell ⟨qb, init.length * 2 + 1, none⟩ (.slice (some ⟨g, 0, none⟩) (q.ans.length + 1) cap)) := (ho.mono fun j _ e => .inr e).setCell (a := ⟨qb, init.length * 2 + 1, none⟩) (fun _ => .inl rfl) _
  have hqrow : ∀ {v : Value} {xs : List Ans}, OwnR cellsA 4 W1 (pb + 1) 45 v xs → v.ownBlock ≠ some qb := fun hr e => rows_apart hr hQ2 (by decide) e rfl
  have hnew : ∀ (i : Nat) (r : Ques), init[i]? = some r → ∀ k, (ansSl r).ownBlock = some k → k ≠ g ∧ (ansSl q).ownBlock ≠ some k := by
    intro i r hi k hk
    have hil : i < init.length := (List.getElem?_eq_some_iff.1 hi).1
    have hri : p.qs[i]? = some r := by rw [hq, List.getElem?_append_left hil]; exact hi
    have hne := h.ds i init.length r q hri hqi (by omega) k hk
    refine ⟨fun e => ?_, hne⟩
    subst e
    rcases hat with hat | hat
    · exact hne hat
    · have := (World.ownsRow.lt (h.an r (List.mem_of_getElem? hri)) k hk).2
      omega
  refine ⟨qb, hqA, hcl, hfr, ⟨?_, ?_, ?_, ?_⟩, ho2.below (Nat.le_of_lt h.lt) (fun j e => by
    rcases e with e | e
    · omega
    · have := hge _ e
      omega)⟩
  · rw [Below.heap_setCell W1 _ _ pb (by show pb ≠ qb; omega), c1]
    simp [Prot.cells, hq]
  · have e1 : (p.qs.flatMap cellsQ).set (init.length * 2 + 1) (.slice (some ⟨g, 0, none⟩) (q.ans.length + 1) cap) = (init ++ [(⟨q.text, some ⟨g, 0, none⟩, q.ans ++ [a], cap⟩ : Ques)]).flatMap cellsQ := by
      rw [hq]
      exact flat_set cellsQ_len (by simp [cellsQ])
    rw [e1] at hst
    show World.ownsRow _ _ _ _ (.slice p.qA _ _) _ _
    rw [hqA]
    have e2 : (init ++ [(⟨q.text, some ⟨g, 0, none⟩, q.ans ++ [a], cap⟩ : Ques)]).length = p.qs.length := by rw [hq]; simp
    rw [e2]
    exact hst
  · intro r hr
    rcases List.mem_append.1 hr with hr | hr
    · obtain ⟨i, hi⟩ := List.getElem?_of_mem hr
      have hrm : r ∈ p.qs := by rw [hq]; simp [hr]
      have h1 : OwnR cellsA 4 W1 (pb + 1) 45 (ansSl r) r.ans := ho.row (h.an r hrm) (fun k e => (hnew i r hi k e).2)
      exact ownsRow_setCell_other h1 (hqrow h1) _
    · rw [List.mem_singleton.1 hr]
      have e1 : ansSl ⟨q.text, some ⟨g, 0, none⟩, q.ans ++ [a], cap⟩ = .slice (some ⟨g, 0, none⟩) (q.ans.length + 1) cap := by unfold ansSl; simp
      rw [e1]
      exact ownsRow_setCell_other hown (hqrow hown) _
  · intro i j r t hi hj hne k hk hk2
    have sp : ∀ {i : Nat} {r : Ques}, (init ++ [(⟨q.text, some ⟨g, 0, none⟩, q.ans ++ [a], cap⟩ : Ques)])[i]? = some r → init[i]? = some r ∨ (i = init.length ∧ r = ⟨q.text, some ⟨g, 0, none⟩, q.ans ++ [a], cap⟩) := by
      intro i r hi
      by_cases hl : i < init.length
      · rw [List.getElem?_append_left hl] at hi
        exact .inl hi
      · rw [List.getElem?_append_right (by omega)] at hi
        have hz : i - init.length = 0 := by
          have := (List.getElem?_eq_some_iff.1 hi).1
          simp at this
          omega
        rw [hz] at hi
        simp at hi
        exact .inr ⟨by omega, hi.symm⟩
    have old : ∀ {i : Nat} {r : Ques}, init[i]? = some r → p.qs[i]? = some r := fun {i r} hi => by
      rw [hq, List.getElem?_append_left (List.getElem?_eq_some_iff.1 hi).1]
      exact hi
    rcases sp hi with hi | ⟨hi, rfl⟩
    · rcases sp hj with hj | ⟨hj, rfl⟩
      · exact h.ds i j r t (old hi) (old hj) hne k hk hk2
      · have e1 : g = k := by simpa [ansSl, Value.ownBlock] using hk2
        exact (hnew i r hi k hk).1 e1.symm
    · rcases sp hj with hj | ⟨hj, rfl⟩
      · have e1 : g = k := by simpa [ansSl, Value.ownBlock] using hk
        exact (hnew j t hj k hk2).1 e1.symm
      · omega
end
end Go.Proofs.YtbbklideciappaaGreatDoor
